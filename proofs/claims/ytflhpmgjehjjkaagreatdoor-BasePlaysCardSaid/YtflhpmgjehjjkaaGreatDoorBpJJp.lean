/- The facts of the row of BasePlays, one by one. -/
import Derived.JoinedOf
import Derived.Test.YtflhpmgjehjjkaaGreatDoorRows
import Derived.Test.YtflhpmgjehjjkaaGreatDoorKitJp
namespace Go.Proofs.YtflhpmgjehjjkaaGreatDoor
open Go Go.RowKit
theorem and2Bp {a b : Bool} (h : a = true) (k : b = true) : (a && b) = true := by rw [h, k]; rfl
theorem jBp_2 : laidOutB Tryz.prog = true := by kernel_rfl
theorem jBp_3 : mapsRowed Tryz.prog = true := by kernel_rfl
theorem jBp_10 : (Rows.basePlaysRow.inPlace == Tryz.prog.inPlace 6) = true := by kernel_rfl
theorem jBp_11 : (Rows.basePlaysRow.unfollowed == Tryz.prog.unfollowed 6) = true := by kernel_rfl
theorem jBp_12 : (Rows.basePlaysRow.recurses == Tryz.prog.recurses 6) = true := by kernel_rfl
theorem jBp_13 : (Rows.basePlaysRow.named == Tryz.prog.varsNamed 6) = true := by kernel_rfl
theorem jBp_25 : Tryz.prog.stopsHeard = true := by kernel_rfl
theorem jBp_26 : Tryz.prog.mayEnter = true := by kernel_rfl
theorem jBp_27 : (Rows.basePlaysRow.lifted == Tryz.prog.liftsFinal) = true := by kernel_rfl
set_option maxRecDepth 100000 in
theorem jBp : joinedFacts Tryz.prog 6 Tryz.f6 Rows.basePlaysSpec Rows.basePlaysRow = true := by
 unfold joinedFacts
 exact (and2Bp (and2Bp (and2Bp (and2Bp (and2Bp (and2Bp (and2Bp (and2Bp (and2Bp (and2Bp (and2Bp (and2Bp (and2Bp (and2Bp (and2Bp (and2Bp (and2Bp (and2Bp (and2Bp (and2Bp (and2Bp (and2Bp (and2Bp (and2Bp (and2Bp (and2Bp (and2Bp (and2Bp (and2Bp (and2Bp (and2Bp (by kernel_rfl) jBp_2) jBp_3) (by kernel_rfl)) (by kernel_rfl)) (by kernel_rfl)) (by kernel_rfl)) (by kernel_rfl)) (by kernel_rfl)) jBp_10) jBp_11) jBp_12) jBp_13) (by kernel_rfl)) (by kernel_rfl)) (by kernel_rfl)) (by kernel_rfl)) (by kernel_rfl)) (by kernel_rfl)) (by kernel_rfl)) (by kernel_rfl)) (by kernel_rfl)) (by kernel_rfl)) (by kernel_rfl)) jBp_25) jBp_26) jBp_27) (by kernel_rfl)) (by kernel_rfl)) (by kernel_rfl)) (by kernel_rfl)) (by kernel_rfl))
end Go.Proofs.YtflhpmgjehjjkaaGreatDoor
