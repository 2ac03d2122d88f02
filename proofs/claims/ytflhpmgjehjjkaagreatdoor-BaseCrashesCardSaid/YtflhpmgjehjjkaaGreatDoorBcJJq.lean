/- The facts of the row of BaseCrashes, one by one. -/
import Derived.JoinedOf
import Derived.Test.YtflhpmgjehjjkaaGreatDoorRows
import Derived.Test.YtflhpmgjehjjkaaGreatDoorKitJq
namespace Go.Proofs.YtflhpmgjehjjkaaGreatDoor
open Go Go.RowKit

theorem and2Bc {a b : Bool} (h : a = true) (k : b = true) : (a && b) = true := by rw [h, k]; rfl
theorem jBc_2 : laidOutB Tryz.prog = true := by kernel_rfl
theorem jBc_3 : mapsRowed Tryz.prog = true := by kernel_rfl
theorem jBc_10 : (Rows.baseCrashesRow.inPlace == Tryz.prog.inPlace 5) = true := by kernel_rfl
theorem jBc_11 : (Rows.baseCrashesRow.unfollowed == Tryz.prog.unfollowed 5) = true := by kernel_rfl
theorem jBc_12 : (Rows.baseCrashesRow.recurses == Tryz.prog.recurses 5) = true := by kernel_rfl
theorem jBc_13 : (Rows.baseCrashesRow.named == Tryz.prog.varsNamed 5) = true := by kernel_rfl
theorem jBc_25 : Tryz.prog.stopsHeard = true := by kernel_rfl
theorem jBc_26 : Tryz.prog.mayEnter = true := by kernel_rfl
theorem jBc_27 : (Rows.baseCrashesRow.lifted == Tryz.prog.liftsFinal) = true := by kernel_rfl
set_option maxRecDepth 100000 in
theorem jBc : joinedFacts Tryz.prog 5 Tryz.f5 Rows.baseCrashesSpec Rows.baseCrashesRow = true := by
  unfold joinedFacts
  exact (and2Bc (and2Bc (and2Bc (and2Bc (and2Bc (and2Bc (and2Bc (and2Bc (and2Bc (and2Bc (and2Bc (and2Bc (and2Bc (and2Bc (and2Bc (and2Bc (and2Bc (and2Bc (and2Bc (and2Bc (and2Bc (and2Bc (and2Bc (and2Bc (and2Bc (and2Bc (and2Bc (and2Bc (and2Bc (and2Bc (and2Bc (by kernel_rfl) jBc_2) jBc_3) (by kernel_rfl)) (by kernel_rfl)) (by kernel_rfl)) (by kernel_rfl)) (by kernel_rfl)) (by kernel_rfl)) jBc_10) jBc_11) jBc_12) jBc_13) (by kernel_rfl)) (by kernel_rfl)) (by kernel_rfl)) (by kernel_rfl)) (by kernel_rfl)) (by kernel_rfl)) (by kernel_rfl)) (by kernel_rfl)) (by kernel_rfl)) (by kernel_rfl)) (by kernel_rfl)) jBc_25) jBc_26) jBc_27) (by kernel_rfl)) (by kernel_rfl)) (by kernel_rfl)) (by kernel_rfl)) (by kernel_rfl))
end Go.Proofs.YtflhpmgjehjjkaaGreatDoor
