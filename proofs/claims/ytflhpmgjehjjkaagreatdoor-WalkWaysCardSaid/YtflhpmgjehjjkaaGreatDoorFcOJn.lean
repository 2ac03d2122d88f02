/- A slice of changes, and a key, that come in, opened. -/
import Derived.Deep.SlicePairs
import Derived.ProofKit
import Derived.Lib.SmallJoins
import Derived.Test.YtflhpmgjehjjkaaGreatDoorFcGJn
namespace Go.Proofs.YtflhpmgjehjjkaaGreatDoor
open Go.ChangeShapes Go.WideShapes Go.ChangeAt Go.RowKit Go.Joins Go.Deep

theorem cellsKey : Tryz.prog.cellsOf 44 = 4 := by kernel_rfl
theorem cellsIntO : Tryz.prog.cellsOf 3 = 1 := by kernel_rfl
theorem cellsStrO : Tryz.prog.cellsOf 9 = 1 := by kernel_rfl
end Go.Proofs.YtflhpmgjehjjkaaGreatDoor
