/- A slice of Says that comes in, opened. -/
import Derived.Deep.SlicePairs
import Derived.ProofKit
import Derived.Lib.SmallJoins
import Derived.Test.YtflhpmgjehjjkaaGreatDoorPsBJq
import Derived.Test.YtflhpmgjehjjkaaGreatDoorTreeXJq
namespace Go.Proofs.YtflhpmgjehjjkaaGreatDoor
open Go.ChangeShapes Go.WideShapes Go.ChangeAt Go.RowKit Go.Joins Go.Deep

theorem cellsSay' : Tryz.prog.cellsOf 113 = 5 := by kernel_rfl
theorem cellsIntS : Tryz.prog.cellsOf 3 = 1 := by kernel_rfl
theorem wf_i64S {n : Int} (h : (Lit.int .i64 n).wf = true) : i64B n := by
  simp [Lit.wf, IntKind.min, IntKind.max, IntKind.bits, IntKind.signed] at h
  unfold i64B
  omega
set_option maxRecDepth 100000 in
theorem open_says {H : Type} {enc : TypeId × Value → H} {W : World} {v : Value} {d : DataW H} {p : List MemPlace} (hv : ∃ a len cap, v = .slice a len cap)
    (h : DataW.Trod enc Tryz.prog W 0 (fun _ => true) true 22 v d p) :
    ∃ ao l cap, v = .slice ao l.length cap ∧ saysAt W ao l ∧ (∀ s ∈ l, s.Ok) ∧ l.length ≤ maxLen := by
  obtain ⟨fuel, h⟩ := h
  obtain ⟨a0, len0, cap0, rfl⟩ := hv
  rcases Go.Deep.open_slice Tryz.underlying22 h with ⟨hc, _⟩ | ⟨a, len, cap, m, n, D, Pl, hc, hb, hl, hm, hmm, _, hx⟩
  · simp [Value.cells] at hc
    obtain ⟨rfl, rfl, rfl⟩ := hc
    exact ⟨none, [], 0, rfl, (fun i p h => by simp at h), (fun p hp => by cases hp), Nat.zero_le _⟩
  · simp [Value.cells] at hc
    obtain ⟨rfl, rfl, rfl⟩ := hc
    simp only [if_true] at hmm
    have key : ∀ i, i < len0 → ∃ q : SayP, (∀ j u, (sayCells q)[j]? = some u → W.cell? (a.add (i * 5 + j)) = some u) ∧ q.Ok := by
      intro i hi
      obtain ⟨cs', h1, h2⟩ := hx i (by omega)
      rw [cellsSay'] at h1
      obtain ⟨_, hlen, hcell⟩ := World.cells?_some h1
      obtain ⟨xs, k, hk, hxy, _, hxl, hf⟩ := DataW.trod_struct Tryz.underlying113 h2
      match xs, hxl, cs', hlen with
      | [y0, y1, y2, y3, y4], _, [v0, v1, v2, v3, v4], _ =>
        have g0 := hf 0 _ rfl
        have g1 := hf 1 _ rfl
        have g2 := hf 2 _ rfl
        have g3 := hf 3 _ rfl
        have g4 := hf 4 _ rfl
        simp [cellsIntS] at g0 g1 g2 g3 g4
        obtain ⟨x0, e0, _, w0⟩ := DataW.trod_int Tryz.underlying3 g0
        obtain ⟨x1, e1, _, w1⟩ := DataW.trod_int Tryz.underlying3 g1
        obtain ⟨x2, e2, _, w2⟩ := DataW.trod_int Tryz.underlying3 g2
        obtain ⟨x3, e3, _, w3⟩ := DataW.trod_int Tryz.underlying3 g3
        obtain ⟨x4, e4, _, w4⟩ := DataW.trod_int Tryz.underlying3 g4
        simp at e0 e1 e2 e3 e4
        refine ⟨⟨x0, x1, x2, x3, x4⟩, fun j u hj => ?_, ⟨wf_i64S w0, wf_i64S w1, wf_i64S w2, wf_i64S w3, wf_i64S w4⟩⟩
        have hj5 : j < 5 := by
          rcases Nat.lt_or_ge j 5 with h | h
          · exact h
          · rw [List.getElem?_eq_none (by simpa [sayCells] using h)] at hj; cases hj
        have c := hcell j (by omega)
        rw [add_add] at c
        rw [c]
        match j, hj5, hj with
        | 0, _, hj => simpa [e0, sayCells] using hj
        | 1, _, hj => simpa [e1, sayCells] using hj
        | 2, _, hj => simpa [e2, sayCells] using hj
        | 3, _, hj => simpa [e3, sayCells] using hj
        | 4, _, hj => simpa [e4, sayCells] using hj
    haveI : Inhabited SayP := ⟨⟨0, 0, 0, 0, 0⟩⟩
    obtain ⟨q, hq⟩ := choose_lt key
    refine ⟨some a, (List.range len0).map q, cap0, by simp, ?_, ?_, by simp; omega⟩
    · intro i p hp
      simp only [List.getElem?_map, Option.map_eq_some_iff] at hp
      obtain ⟨i', hi', rfl⟩ := hp
      obtain ⟨hlt, rfl⟩ := List.getElem?_eq_some_iff.1 hi'
      simp only [List.length_range] at hlt
      simp only [List.getElem_range] at *
      obtain ⟨c0, _⟩ := hq i hlt
      obtain ⟨z0, _⟩ := hq 0 (by omega)
      have hs := World.cell?_spot (z0 0 _ rfl)
      obtain ⟨b, o, sp⟩ := a
      have hsp : sp = none := by simpa [Addr.add] using hs
      subst hsp
      have ha : ∀ k, (⟨b, o, none⟩ : Addr).add k = ⟨b, o + k, none⟩ := fun k => by unfold Addr.add; split <;> simp_all
      exact ⟨b, o, rfl, fun j u hj => by have := c0 j u hj; rw [ha, ← Nat.add_assoc] at this; exact this⟩
    · intro p hp
      obtain ⟨i, hi, rfl⟩ := List.mem_map.1 hp
      exact (hq i (List.mem_range.1 hi)).2
end Go.Proofs.YtflhpmgjehjjkaaGreatDoor
