/- A slice of changes, and a key, that come in, opened. -/
import Derived.Deep.SlicePairs
import Derived.ProofKit
import Derived.Lib.SmallJoins
import Derived.Test.YtflhpmgjehjjkaaGreatDoorFcGJp
namespace Go.Proofs.YtflhpmgjehjjkaaGreatDoor
open Go.ChangeShapes Go.WideShapes Go.ChangeAt Go.RowKit Go.Joins Go.Deep
theorem cellsOp : Tryz.prog.cellsOf 70 = 7 := by kernel_rfl
theorem cellsKey : Tryz.prog.cellsOf 44 = 4 := by kernel_rfl
theorem cellsSpanO : Tryz.prog.cellsOf 68 = 2 := by kernel_rfl
theorem cellsIntO : Tryz.prog.cellsOf 3 = 1 := by kernel_rfl
theorem cellsStrO : Tryz.prog.cellsOf 9 = 1 := by kernel_rfl
def keyCells (k : KeyP) : List Value := [.int .i64 k.kind, .int .i64 k.a, .string k.word, .int .i64 k.b]
set_option maxRecDepth 100000 in
theorem key_trod {H : Type} {enc : TypeId × Value -> H} {W : World} {sp : Nat -> Bool} {held : Bool} {base fuel : Nat} {cs : List Value} {x : DataW H × List MemPlace} (h : DataW.trod enc Tryz.prog W base sp held fuel 44 cs = some x) :
  ∃ k : KeyP, cs = keyCells k /\ k.word.size <= maxLen := by
 obtain ⟨xs, n, _, _, hl, hxl, hf⟩ := DataW.trod_struct Tryz.underlying44 h
 rw [cellsKey] at hl
 match xs, hxl, cs, hl with
 | [y0, y1, y2, y3], _, [v0, v1, v2, v3], _ =>
   have g0 := hf 0 _ rfl
   have g1 := hf 1 _ rfl
   have g2 := hf 2 _ rfl
   have g3 := hf 3 _ rfl
   simp [cellsIntO, cellsStrO] at g0 g1 g2 g3
   obtain ⟨x0, e0, _, w0⟩ := DataW.trod_int Tryz.underlying3 g0
   obtain ⟨x1, e1, _, w1⟩ := DataW.trod_int Tryz.underlying3 g1
   obtain ⟨x2, e2, _, w2⟩ := DataW.trod_string Tryz.underlying9 g2
   obtain ⟨x3, e3, _, w3⟩ := DataW.trod_int Tryz.underlying3 g3
   simp at e0 e1 e2 e3
   exact ⟨⟨x0, x1, x2, x3⟩, by simp [keyCells, e0, e1, e2, e3], w2⟩
set_option maxRecDepth 100000 in
theorem op_trod {H : Type} {enc : TypeId × Value -> H} {W : World} {sp : Nat -> Bool} {held : Bool} {base fuel : Nat} {cs : List Value} {x : DataW H × List MemPlace} (h : DataW.trod enc Tryz.prog W base sp held fuel 70 cs = some x) :
  ∃ o : OpP, cs = opCells o := by
 obtain ⟨xs, n, _, _, hl, hxl, hf⟩ := DataW.trod_struct Tryz.underlying70 h
 rw [cellsOp] at hl
 match xs, hxl, cs, hl with
 | [y0, y1, y2], _, [v0, v1, v2, v3, v4, v5, v6], _ =>
   have g0 := hf 0 _ rfl
   have g1 := hf 1 _ rfl
   have g2 := hf 2 _ rfl
   simp [cellsKey, cellsSpanO, cellsStrO] at g0 g1 g2
   obtain ⟨k, ek, _⟩ := key_trod g0
   obtain ⟨zs, m, _, _, _, hzl, hf2⟩ := DataW.trod_struct Tryz.underlying68 g1
   match zs, hzl with
   | [z0, z1], _ =>
     have t0 := hf2 0 _ rfl
     have t1 := hf2 1 _ rfl
     simp [cellsIntO] at t0 t1
     obtain ⟨x0, e0, _, _⟩ := DataW.trod_int Tryz.underlying3 t0
     obtain ⟨x1, e1, _, _⟩ := DataW.trod_int Tryz.underlying3 t1
     obtain ⟨x2, e2, _, _⟩ := DataW.trod_string Tryz.underlying9 g2
     simp at e0 e1 e2
     simp [keyCells] at ek
     obtain ⟨k0, k1, k2, k3⟩ := ek
     exact ⟨⟨k, x0, x1, x2⟩, by simp [opCells, k0, k1, k2, k3, e0, e1, e2]⟩
end Go.Proofs.YtflhpmgjehjjkaaGreatDoor
