/-The facts of the row of DeskPieces,one by one. -/
import Derived.JoinedOf
import Derived.Test.YtpgkjnebklknjaaGreatDoorRows
import Derived.Test.YtpgkjnebklknjaaGreatDoorKitJr
namespace Go.Proofs.YtpgkjnebklknjaaGreatDoor
open Go Go.RowKit
theorem and2Dp {a b:Bool} (h:a=true) (k:b=true):(a && b)=true:=by rw[h,k];rfl
theorem jDp_2:laidOutB Tryz.prog=true:=by kernel_rfl
theorem jDp_3:mapsRowed Tryz.prog=true:=by kernel_rfl
theorem jDp_10:(Rows.deskPiecesRow.inPlace==Tryz.prog.inPlace 4)=true:=by kernel_rfl
theorem jDp_11:(Rows.deskPiecesRow.unfollowed==Tryz.prog.unfollowed 4)=true:=by kernel_rfl
theorem jDp_12:(Rows.deskPiecesRow.recurses==Tryz.prog.recurses 4)=true:=by kernel_rfl
theorem jDp_13:(Rows.deskPiecesRow.named==Tryz.prog.varsNamed 4)=true:=by kernel_rfl
theorem jDp_25:Tryz.prog.stopsHeard=true:=by kernel_rfl
theorem jDp_26:Tryz.prog.mayEnter=true:=by kernel_rfl
theorem jDp_27:(Rows.deskPiecesRow.lifted==Tryz.prog.liftsFinal)=true:=by kernel_rfl
set_option maxRecDepth 100000 in
theorem jDp:joinedFacts Tryz.prog 4 Tryz.f4 Rows.deskPiecesSpec Rows.deskPiecesRow=true:=by
 unfold joinedFacts
 exact(and2Dp (and2Dp (and2Dp (and2Dp (and2Dp (and2Dp (and2Dp (and2Dp (and2Dp (and2Dp (and2Dp (and2Dp (and2Dp (and2Dp (and2Dp (and2Dp (and2Dp (and2Dp (and2Dp (and2Dp (and2Dp (and2Dp (and2Dp (and2Dp (and2Dp (and2Dp (and2Dp (and2Dp (and2Dp (and2Dp (and2Dp (by kernel_rfl) jDp_2) jDp_3) (by kernel_rfl)) (by kernel_rfl)) (by kernel_rfl)) (by kernel_rfl)) (by kernel_rfl)) (by kernel_rfl)) jDp_10) jDp_11) jDp_12) jDp_13) (by kernel_rfl)) (by kernel_rfl)) (by kernel_rfl)) (by kernel_rfl)) (by kernel_rfl)) (by kernel_rfl)) (by kernel_rfl)) (by kernel_rfl)) (by kernel_rfl)) (by kernel_rfl)) (by kernel_rfl)) jDp_25) jDp_26) jDp_27) (by kernel_rfl)) (by kernel_rfl)) (by kernel_rfl)) (by kernel_rfl)) (by kernel_rfl))
end Go.Proofs.YtpgkjnebklknjaaGreatDoor
