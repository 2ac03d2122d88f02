/-The facts of the card of deskPieces,one by one. -/
import Derived.SevenTiedAt
import Derived.JoinedOf
import Derived.Test.YtpgkjnebklknjaaGreatDoorTie
import Derived.Test.YtpgkjnebklknjaaGreatDoorCards
import Derived.Test.YtpgkjnebklknjaaGreatDoorKitJr
namespace Go.Proofs.YtpgkjnebklknjaaGreatDoor
open Go Go.RowKit
theorem kDp_w:Rows.deskPiecesRow.wfByText (OpenSpec.ofChange Rows.deskPiecesSpec)=true:=by kernel_rfl
theorem kDp_m : Tryz.pinned.checked.prog.mainIs = some (((true, "b3ae0ec952df22b5aac9c5c18aa2acc09b73f53706038ba95fd48b49c9867f7b") : Bool × String).1, ((true, "b3ae0ec952df22b5aac9c5c18aa2acc09b73f53706038ba95fd48b49c9867f7b") : Bool × String).2.toList) := by kernel_rfl
theorem kDp_l:true=Tryz.pinned.checked.prog.looks []:=by kernel_rfl
theorem kDp_g:false=Rows.deskPiecesRow.goesBy Tryz.pinned.checked.prog:=by kernel_rfl
theorem kDp_string:Tryz.pinned.checked.prog.wantsStandIn 9=false:=by kernel_rfl
end Go.Proofs.YtpgkjnebklknjaaGreatDoor
