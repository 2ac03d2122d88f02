/- The facts of the row of WalkPlays, one by one. -/
import Derived.JoinedOf
import Derived.Test.YtflhpmgjehjjkaaGreatDoorRows
import Derived.Test.YtflhpmgjehjjkaaGreatDoorKitJo
namespace Go.Proofs.YtflhpmgjehjjkaaGreatDoor
open Go Go.RowKit

theorem and2Wp {a b : Bool} (h : a = true) (k : b = true) : (a && b) = true := by rw [h, k]; rfl
theorem jWp_2 : laidOutB Tryz.prog = true := by kernel_rfl
theorem jWp_3 : mapsRowed Tryz.prog = true := by kernel_rfl
theorem jWp_10 : (Rows.walkPlaysRow.inPlace == Tryz.prog.inPlace 4) = true := by kernel_rfl
theorem jWp_11 : (Rows.walkPlaysRow.unfollowed == Tryz.prog.unfollowed 4) = true := by kernel_rfl
theorem jWp_12 : (Rows.walkPlaysRow.recurses == Tryz.prog.recurses 4) = true := by kernel_rfl
theorem jWp_13 : (Rows.walkPlaysRow.named == Tryz.prog.varsNamed 4) = true := by kernel_rfl
theorem jWp_25 : Tryz.prog.stopsHeard = true := by kernel_rfl
theorem jWp_26 : Tryz.prog.mayEnter = true := by kernel_rfl
theorem jWp_27 : (Rows.walkPlaysRow.lifted == Tryz.prog.liftsFinal) = true := by kernel_rfl
set_option maxRecDepth 100000 in
theorem jWp : joinedFacts Tryz.prog 4 Tryz.f4 Rows.walkPlaysSpec Rows.walkPlaysRow = true := by
  unfold joinedFacts
  exact (and2Wp (and2Wp (and2Wp (and2Wp (and2Wp (and2Wp (and2Wp (and2Wp (and2Wp (and2Wp (and2Wp (and2Wp (and2Wp (and2Wp (and2Wp (and2Wp (and2Wp (and2Wp (and2Wp (and2Wp (and2Wp (and2Wp (and2Wp (and2Wp (and2Wp (and2Wp (and2Wp (and2Wp (and2Wp (and2Wp (and2Wp (by kernel_rfl) jWp_2) jWp_3) (by kernel_rfl)) (by kernel_rfl)) (by kernel_rfl)) (by kernel_rfl)) (by kernel_rfl)) (by kernel_rfl)) jWp_10) jWp_11) jWp_12) jWp_13) (by kernel_rfl)) (by kernel_rfl)) (by kernel_rfl)) (by kernel_rfl)) (by kernel_rfl)) (by kernel_rfl)) (by kernel_rfl)) (by kernel_rfl)) (by kernel_rfl)) (by kernel_rfl)) (by kernel_rfl)) jWp_25) jWp_26) jWp_27) (by kernel_rfl)) (by kernel_rfl)) (by kernel_rfl)) (by kernel_rfl)) (by kernel_rfl))
end Go.Proofs.YtflhpmgjehjjkaaGreatDoor
