/- A slice of changes, and a key, that come in, opened. -/
import Derived.Deep.SlicePairs
import Derived.ProofKit
import Derived.Lib.SmallJoins
import Derived.Test.YtacedfcckkpciaaGreatDoorFcGL
namespace Go.Proofs.YtacedfcckkpciaaGreatDoor
open Go.ChangeShapes Go.WideShapes Go.ChangeAt Go.RowKit Go.Joins Go.Deep

theorem cellsOp : Tryz.prog.cellsOf 46 = 7 := by kernel_rfl
theorem cellsKey : Tryz.prog.cellsOf 29 = 4 := by kernel_rfl
theorem cellsSpanO : Tryz.prog.cellsOf 44 = 2 := by kernel_rfl
theorem cellsIntO : Tryz.prog.cellsOf 3 = 1 := by kernel_rfl
theorem cellsStrO : Tryz.prog.cellsOf 9 = 1 := by kernel_rfl
def keyCells (k : KeyP) : List Value := [.int .i64 k.kind, .int .i64 k.a, .string k.word, .int .i64 k.b]
set_option maxRecDepth 100000 in
theorem key_trod {H : Type} {enc : TypeId × Value → H} {W : World} {sp : Nat → Bool} {held : Bool} {base fuel : Nat} {cs : List Value} {x : DataW H × List MemPlace} (h : DataW.trod enc Tryz.prog W base sp held fuel 29 cs = some x) :
    ∃ k : KeyP, cs = keyCells k ∧ k.word.size ≤ maxLen := by
  obtain ⟨xs, n, _, _, hl, hxl, hf⟩ := DataW.trod_struct Tryz.underlying29 h
  rw [cellsKey] at hl
  match xs, hxl, cs, hl with
  | [y0, y1, y2, y3], _, [v0, v1, v2, v3], _ =>
    have g0 := hf 0 _ rfl
    have g1 := hf 1 _ rfl
    have g2 := hf 2 _ rfl
    have g3 := hf 3 _ rfl
    simp [cellsIntO, cellsStrO] at g0 g1 g2 g3
    obtain ⟨x0, e0, _, w0⟩ := DataW.trod_int Tryz.underlying3 g0
    obtain ⟨x1, e1, _, w1⟩ := DataW.trod_int Tryz.underlying3 g1
    obtain ⟨x2, e2, _, w2⟩ := DataW.trod_string Tryz.underlying9 g2
    obtain ⟨x3, e3, _, w3⟩ := DataW.trod_int Tryz.underlying3 g3
    simp at e0 e1 e2 e3
    exact ⟨⟨x0, x1, x2, x3⟩, by simp [keyCells, e0, e1, e2, e3], w2⟩
set_option maxRecDepth 100000 in
theorem op_trod {H : Type} {enc : TypeId × Value → H} {W : World} {sp : Nat → Bool} {held : Bool} {base fuel : Nat} {cs : List Value} {x : DataW H × List MemPlace} (h : DataW.trod enc Tryz.prog W base sp held fuel 46 cs = some x) :
    ∃ o : OpP, cs = opCells o := by
  obtain ⟨xs, n, _, _, hl, hxl, hf⟩ := DataW.trod_struct Tryz.underlying46 h
  rw [cellsOp] at hl
  match xs, hxl, cs, hl with
  | [y0, y1, y2], _, [v0, v1, v2, v3, v4, v5, v6], _ =>
    have g0 := hf 0 _ rfl
    have g1 := hf 1 _ rfl
    have g2 := hf 2 _ rfl
    simp [cellsKey, cellsSpanO, cellsStrO] at g0 g1 g2
    obtain ⟨k, ek, _⟩ := key_trod g0
    obtain ⟨zs, m, _, _, _, hzl, hf2⟩ := DataW.trod_struct Tryz.underlying44 g1
    match zs, hzl with
    | [z0, z1], _ =>
      have t0 := hf2 0 _ rfl
      have t1 := hf2 1 _ rfl
      simp [cellsIntO] at t0 t1
      obtain ⟨x0, e0, _, _⟩ := DataW.trod_int Tryz.underlying3 t0
      obtain ⟨x1, e1, _, _⟩ := DataW.trod_int Tryz.underlying3 t1
      obtain ⟨x2, e2, _, _⟩ := DataW.trod_string Tryz.underlying9 g2
      simp at e0 e1 e2
      simp [keyCells] at ek
      obtain ⟨k0, k1, k2, k3⟩ := ek
      exact ⟨⟨k, x0, x1, x2⟩, by simp [opCells, k0, k1, k2, k3, e0, e1, e2]⟩
set_option maxRecDepth 100000 in
theorem open_key {H : Type} {enc : TypeId × Value → H} {W : World} {r : Reach} {b0 : Nat} {v : Value} {d : DataW H} {p : List MemPlace} (hv : Value.okWide Tryz.prog W r b0 29 v)
    (h : DataW.Trod enc Tryz.prog W 0 (fun _ => true) true 29 v d p) : ∃ k : KeyP, v = .agg #[.int .i64 k.kind, .int .i64 k.a, .string k.word, .int .i64 k.b] ∧ k.word.size ≤ maxLen := by
  obtain ⟨cs, rfl, hs⟩ := okWide_struct Tryz.underlying29 hv
  obtain ⟨fuel, h⟩ := h
  obtain ⟨k, hk, hw⟩ := key_trod h
  have : cs.toList = keyCells k := by simpa [Value.cells] using hk
  exact ⟨k, by rw [← Array.toArray_toList (xs := cs), this]; rfl, hw⟩
set_option maxRecDepth 100000 in
theorem open_ops {H : Type} {enc : TypeId × Value → H} {W : World} {v : Value} {d : DataW H} {p : List MemPlace} (hv : ∃ a len cap, v = .slice a len cap)
    (h : DataW.Trod enc Tryz.prog W 0 (fun _ => true) true 42 v d p) : ∃ ao l cap, v = .slice ao l.length cap ∧ opsAt W ao l ∧ l.length ≤ maxLen := by
  obtain ⟨fuel, h⟩ := h
  obtain ⟨a0, len0, cap0, rfl⟩ := hv
  rcases Go.Deep.open_slice Tryz.underlying42 h with ⟨hc, _⟩ | ⟨a, len, cap, m, n, D, Pl, hc, hb, hl, hm, hmm, _, hx⟩
  · simp [Value.cells] at hc
    obtain ⟨rfl, rfl, rfl⟩ := hc
    exact ⟨none, [], 0, rfl, (fun i p h => by simp at h), Nat.zero_le _⟩
  · simp [Value.cells] at hc
    obtain ⟨rfl, rfl, rfl⟩ := hc
    simp only [if_true] at hmm
    have key : ∀ i, i < len0 → ∃ o : OpP, ∀ j u, (opCells o)[j]? = some u → W.cell? (a.add (i * 7 + j)) = some u := by
      intro i hi
      obtain ⟨cs', h1, h2⟩ := hx i (by omega)
      rw [cellsOp] at h1
      obtain ⟨_, hlen, hcell⟩ := World.cells?_some h1
      obtain ⟨o, ho⟩ := op_trod h2
      refine ⟨o, fun j u hj => ?_⟩
      have hj7 : j < 7 := (List.getElem?_eq_some_iff.1 hj).1
      have c := hcell j (by omega)
      rw [add_add] at c
      rw [ho, hj] at c
      exact c
    obtain ⟨q, hq⟩ := choose_lt key
    refine ⟨some a, (List.range len0).map q, cap0, by simp, ?_, by simp; omega⟩
    intro i o ho
    simp only [List.getElem?_map, Option.map_eq_some_iff] at ho
    obtain ⟨i', hi', rfl⟩ := ho
    obtain ⟨hlt, rfl⟩ := List.getElem?_eq_some_iff.1 hi'
    simp only [List.length_range] at hlt
    simp only [List.getElem_range] at *
    have z0 := hq 0 (by omega) 0 _ rfl
    have hs := World.cell?_spot z0
    obtain ⟨b, f, sp⟩ := a
    have hsp : sp = none := by simpa [Addr.add] using hs
    subst hsp
    have ha : ∀ k, (⟨b, f, none⟩ : Addr).add k = ⟨b, f + k, none⟩ := fun k => by unfold Addr.add; split <;> simp_all
    refine ⟨b, f, rfl, fun j u hj => ?_⟩
    have := hq i hlt j u hj
    rw [ha, ← Nat.add_assoc] at this
    exact this
end Go.Proofs.YtacedfcckkpciaaGreatDoor
