/- The facts of the row of WalkWays, one by one. -/
import Derived.JoinedOf
import Derived.Test.YtflhpmgjehjjkaaGreatDoorRows
import Derived.Test.YtflhpmgjehjjkaaGreatDoorKitJn
namespace Go.Proofs.YtflhpmgjehjjkaaGreatDoor
open Go Go.RowKit

theorem and2Ww {a b : Bool} (h : a = true) (k : b = true) : (a && b) = true := by rw [h, k]; rfl
theorem jWw_2 : laidOutB Tryz.prog = true := by kernel_rfl
theorem jWw_3 : mapsRowed Tryz.prog = true := by kernel_rfl
theorem jWw_10 : (Rows.walkWaysRow.inPlace == Tryz.prog.inPlace 3) = true := by kernel_rfl
theorem jWw_11 : (Rows.walkWaysRow.unfollowed == Tryz.prog.unfollowed 3) = true := by kernel_rfl
theorem jWw_12 : (Rows.walkWaysRow.recurses == Tryz.prog.recurses 3) = true := by kernel_rfl
theorem jWw_13 : (Rows.walkWaysRow.named == Tryz.prog.varsNamed 3) = true := by kernel_rfl
theorem jWw_25 : Tryz.prog.stopsHeard = true := by kernel_rfl
theorem jWw_26 : Tryz.prog.mayEnter = true := by kernel_rfl
theorem jWw_27 : (Rows.walkWaysRow.lifted == Tryz.prog.liftsFinal) = true := by kernel_rfl
set_option maxRecDepth 100000 in
theorem jWw : joinedFacts Tryz.prog 3 Tryz.f3 Rows.walkWaysSpec Rows.walkWaysRow = true := by
  unfold joinedFacts
  exact (and2Ww (and2Ww (and2Ww (and2Ww (and2Ww (and2Ww (and2Ww (and2Ww (and2Ww (and2Ww (and2Ww (and2Ww (and2Ww (and2Ww (and2Ww (and2Ww (and2Ww (and2Ww (and2Ww (and2Ww (and2Ww (and2Ww (and2Ww (and2Ww (and2Ww (and2Ww (and2Ww (and2Ww (and2Ww (and2Ww (and2Ww (by kernel_rfl) jWw_2) jWw_3) (by kernel_rfl)) (by kernel_rfl)) (by kernel_rfl)) (by kernel_rfl)) (by kernel_rfl)) (by kernel_rfl)) jWw_10) jWw_11) jWw_12) jWw_13) (by kernel_rfl)) (by kernel_rfl)) (by kernel_rfl)) (by kernel_rfl)) (by kernel_rfl)) (by kernel_rfl)) (by kernel_rfl)) (by kernel_rfl)) (by kernel_rfl)) (by kernel_rfl)) (by kernel_rfl)) jWw_25) jWw_26) jWw_27) (by kernel_rfl)) (by kernel_rfl)) (by kernel_rfl)) (by kernel_rfl)) (by kernel_rfl))
end Go.Proofs.YtflhpmgjehjjkaaGreatDoor
