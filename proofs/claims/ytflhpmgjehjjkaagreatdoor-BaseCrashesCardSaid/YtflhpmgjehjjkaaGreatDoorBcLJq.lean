/- The facts of the card of baseCrashes, one by one. -/
import Derived.SevenTiedAt
import Derived.JoinedOf
import Derived.Test.YtflhpmgjehjjkaaGreatDoorTie
import Derived.Test.YtflhpmgjehjjkaaGreatDoorCards
import Derived.Test.YtflhpmgjehjjkaaGreatDoorKitJq
namespace Go.Proofs.YtflhpmgjehjjkaaGreatDoor
open Go Go.RowKit

theorem kBc_w : Rows.baseCrashesRow.wfByText (OpenSpec.ofChange Rows.baseCrashesSpec) = true := by kernel_rfl
theorem kBc_m : Tryz.pinned.checked.prog.mainIs = some (((true, "b8d250f63fa68d1bf1eab8692826e97db3b37e0597505282d86cdcb349f1085d") : Bool × String).1, ((true, "b8d250f63fa68d1bf1eab8692826e97db3b37e0597505282d86cdcb349f1085d") : Bool × String).2.toList) := by kernel_rfl
theorem kBc_l : true = Tryz.pinned.checked.prog.looks [] := by kernel_rfl
theorem kBc_g : false = Rows.baseCrashesRow.goesBy Tryz.pinned.checked.prog := by kernel_rfl
theorem kBc_Says : Tryz.pinned.checked.prog.wantsStandIn 22 = false := by kernel_rfl
theorem kBc_Ints : Tryz.pinned.checked.prog.wantsStandIn 46 = false := by kernel_rfl
theorem kBc_int : Tryz.pinned.checked.prog.wantsStandIn 3 = false := by kernel_rfl
end Go.Proofs.YtflhpmgjehjjkaaGreatDoor
