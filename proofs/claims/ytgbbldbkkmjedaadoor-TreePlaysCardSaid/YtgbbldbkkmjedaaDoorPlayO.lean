/- A slice of Puts that comes in, opened. -/
import Derived.Test.YtgbbldbkkmjedaaDoorPlayW
import Derived.Deep.SlicePairs
import Derived.ProofKit
import Derived.Lib.SmallJoins
namespace Go.Proofs.YtgbbldbkkmjedaaDoor
open Go.ChangeShapes Go.WideShapes Go.ChangeAt Go.RowKit Go.Joins Go.Deep

theorem cellsPut' : Tryd.prog.cellsOf 42 = 4 := by kernel_rfl
theorem cellsSpan'' : Tryd.prog.cellsOf 34 = 2 := by kernel_rfl
theorem cellsInt'' : Tryd.prog.cellsOf 3 = 1 := by kernel_rfl
theorem wf_i64' {n : Int} (h : (Lit.int .i64 n).wf = true) : -9223372036854775808 ≤ n ∧ n < 9223372036854775808 := by
  simp [Lit.wf, IntKind.min, IntKind.max, IntKind.bits, IntKind.signed] at h
  omega
set_option maxRecDepth 100000 in
theorem open_puts {H : Type} {enc : TypeId × Value → H} {W : World} {v : Value} {d : DataW H} {p : List MemPlace} (hv : ∃ a len cap, v = .slice a len cap)
    (h : DataW.Trod enc Tryd.prog W 0 (fun _ => true) true 22 v d p) :
    ∃ ao l cap, v = .slice ao l.length cap ∧ putsAt W ao l ∧ i64P l ∧ l.length ≤ maxLen := by
  obtain ⟨fuel, h⟩ := h
  obtain ⟨a0, len0, cap0, rfl⟩ := hv
  rcases Go.Deep.open_slice Tryd.underlying22 h with ⟨hc, _⟩ | ⟨a, len, cap, m, n, D, Pl, hc, hb, hl, hm, hmm, _, hx⟩
  · simp [Value.cells] at hc
    obtain ⟨rfl, rfl, rfl⟩ := hc
    exact ⟨none, [], 0, rfl, (fun i p h => by simp at h), (fun p hp => by cases hp), Nat.zero_le _⟩
  · simp [Value.cells] at hc
    obtain ⟨rfl, rfl, rfl⟩ := hc
    simp only [if_true] at hmm
    have key : ∀ i, i < len0 → ∃ q : PutV, W.cell? (a.add (i * 4)) = some (.int .i64 q.1) ∧ W.cell? (a.add (i * 4 + 1)) = some (.int .i64 q.2.1) ∧ W.cell? (a.add (i * 4 + 2)) = some (.int .i64 q.2.2.1) ∧ W.cell? (a.add (i * 4 + 3)) = some (.int .i64 q.2.2.2) ∧ (i64 q.1 ∧ i64 q.2.1 ∧ i64 q.2.2.1 ∧ i64 q.2.2.2) := by
      intro i hi
      obtain ⟨cs', h1, h2⟩ := hx i (by omega)
      rw [cellsPut'] at h1
      obtain ⟨_, hlen, hcell⟩ := World.cells?_some h1
      obtain ⟨xs, k, hk, hxy, _, hxl, hf⟩ := DataW.trod_struct Tryd.underlying42 h2
      match xs, hxl, cs', hlen with
      | [y0, y1, y2], _, [v0, v1, v2, v3], _ =>
        have g0 := hf 0 _ rfl
        have g1 := hf 1 _ rfl
        have g2 := hf 2 _ rfl
        simp [cellsInt'', cellsSpan''] at g0 g1 g2
        obtain ⟨zs, k2, hk2, hxy2, _, hzl, hf2⟩ := DataW.trod_struct Tryd.underlying34 g2
        match zs, hzl with
        | [z0, z1], _ =>
          have t0 := hf2 0 _ rfl
          have t1 := hf2 1 _ rfl
          simp [cellsInt''] at t0 t1
          obtain ⟨x0, e0, _, w0⟩ := DataW.trod_int Tryd.underlying3 g0
          obtain ⟨x1, e1, _, w1⟩ := DataW.trod_int Tryd.underlying3 g1
          obtain ⟨x2, e2, _, w2⟩ := DataW.trod_int Tryd.underlying3 t0
          obtain ⟨x3, e3, _, w3⟩ := DataW.trod_int Tryd.underlying3 t1
          simp at e0 e1 e2 e3
          have c0 := hcell 0 (by omega)
          have c1 := hcell 1 (by omega)
          have c2 := hcell 2 (by omega)
          have c3 := hcell 3 (by omega)
          rw [add_add] at c0 c1 c2 c3
          refine ⟨(x0, x1, x2, x3), ?_, ?_, ?_, ?_, ?_, ?_, ?_, ?_⟩
          · simpa [e0] using c0
          · simpa [e1] using c1
          · simpa [e2] using c2
          · simpa [e3] using c3
          all_goals (simp only; unfold i64; (first | (have := wf_i64' w0; omega) | (have := wf_i64' w1; omega) | (have := wf_i64' w2; omega) | (have := wf_i64' w3; omega)))
    obtain ⟨q, hq⟩ := choose_lt key
    refine ⟨some a, (List.range len0).map q, cap0, by simp, ?_, ?_, by simp; omega⟩
    · intro i p hp
      simp only [List.getElem?_map, Option.map_eq_some_iff] at hp
      obtain ⟨i', hi', rfl⟩ := hp
      obtain ⟨hlt, rfl⟩ := List.getElem?_eq_some_iff.1 hi'
      simp only [List.length_range] at hlt
      simp only [List.getElem_range] at *
      obtain ⟨c0, c1, c2, c3, _⟩ := hq i hlt
      obtain ⟨z0, _⟩ := hq 0 (by omega)
      have hs := World.cell?_spot z0
      obtain ⟨b, o, sp⟩ := a
      have hsp : sp = none := by simpa [Addr.add] using hs
      subst hsp
      have ha : ∀ k, (⟨b, o, none⟩ : Addr).add k = ⟨b, o + k, none⟩ := fun k => by unfold Addr.add; split <;> simp_all
      rw [ha] at c0 c1 c2 c3
      exact ⟨b, o, rfl, c0, by rw [← Nat.add_assoc] at c1; exact c1, by rw [← Nat.add_assoc] at c2; exact c2, by rw [← Nat.add_assoc] at c3; exact c3⟩
    · intro p hp
      obtain ⟨i, hi, rfl⟩ := List.mem_map.1 hp
      exact (hq i (List.mem_range.1 hi)).2.2.2.2
end Go.Proofs.YtgbbldbkkmjedaaDoor
