/- A slice of numbers that comes in, opened. -/
import Derived.Deep.SlicePairs
import Derived.ProofKit
import Derived.Lib.SmallJoins
import Derived.Test.YtacedfcckkpciaaGreatDoorPickL
import Derived.Test.YtacedfcckkpciaaGreatDoorSpanCL
namespace Go.Proofs.YtacedfcckkpciaaGreatDoor
open Go.ChangeShapes Go.WideShapes Go.ChangeAt Go.RowKit Go.Joins Go.Deep

theorem cellsSpan' : Tryz.prog.cellsOf 44 = 2 := by kernel_rfl
theorem cellsInt' : Tryz.prog.cellsOf 3 = 1 := by kernel_rfl
theorem wf_i64 {n : Int} (h : (Lit.int .i64 n).wf = true) : -9223372036854775808 ≤ n ∧ n < 9223372036854775808 := by
  simp [Lit.wf, IntKind.min, IntKind.max, IntKind.bits, IntKind.signed] at h
  omega

def intIn (v : Value) : Int := match v with | .int _ n => n | _ => 0
theorem open_spans {H : Type} {enc : TypeId × Value → H} {W : World} {v : Value} {d : DataW H} {p : List MemPlace} (hv : ∃ a len cap, v = .slice a len cap)
    (h : DataW.Trod enc Tryz.prog W 0 (fun _ => true) true 137 v d p) :
    ∃ ao l cap, v = .slice ao l.length cap ∧ spansAt W ao l ∧ i64L l ∧ l.length ≤ maxLen := by
  obtain ⟨fuel, h⟩ := h
  obtain ⟨a0, len0, cap0, rfl⟩ := hv
  rcases open_slice_pairs Tryz.underlying137 Tryz.underlying44 cellsSpan' rfl rfl cellsInt' cellsInt' h with ⟨hc, _⟩ | ⟨a, len, cap, m, n, V0, V1, D0, D1, P0, P1, hc, _, hl, hm, hmm, _, hall⟩
  · simp [Value.cells] at hc
    obtain ⟨rfl, rfl, rfl⟩ := hc
    exact ⟨none, [], 0, rfl, (fun i x y h => by simp at h), (fun p hp => by cases hp), Nat.zero_le _⟩
  · simp [Value.cells] at hc
    obtain ⟨rfl, rfl, rfl⟩ := hc
    simp only [if_true] at hmm
    have key : ∀ i, i < len0 → ∃ x y, W.cell? (a.add (i * 2)) = some (.int .i64 x) ∧ W.cell? (a.add (i * 2 + 1)) = some (.int .i64 y) ∧ V0 i = .int .i64 x ∧ V1 i = .int .i64 y ∧ (Lit.int .i64 x).wf = true ∧ (Lit.int .i64 y).wf = true := by
      intro i hi
      obtain ⟨e0, e1, t0, t1⟩ := hall i (by omega)
      obtain ⟨x, hx, _, wx⟩ := DataW.trod_int Tryz.underlying3 t0
      obtain ⟨y, hy, _, wy⟩ := DataW.trod_int Tryz.underlying3 t1
      simp at hx hy
      exact ⟨x, y, by rw [e0, hx], by rw [e1, hy], hx, hy, wx, wy⟩
    refine ⟨some a, (List.range len0).map fun i => (intIn (V0 i), intIn (V1 i)), cap0, by simp, ?_, ?_, by simp; omega⟩
    · intro i x y hxy
      simp only [List.getElem?_map, Option.map_eq_some_iff] at hxy
      obtain ⟨i', hi', hxy⟩ := hxy
      obtain ⟨hlt, rfl⟩ := List.getElem?_eq_some_iff.1 hi'
      simp only [List.length_range] at hlt
      simp only [List.getElem_range] at hxy
      obtain ⟨x', y', c0, c1, v0, v1, _, _⟩ := key i hlt
      rw [v0, v1] at hxy
      simp [intIn] at hxy
      obtain ⟨rfl, rfl⟩ := hxy
      obtain ⟨_, _, z0, _⟩ := key 0 (by omega)
      have hs := World.cell?_spot z0
      obtain ⟨b, o, sp⟩ := a
      have hsp : sp = none := by simpa [Addr.add] using hs
      subst hsp
      have ha : ∀ k, (⟨b, o, none⟩ : Addr).add k = ⟨b, o + k, none⟩ := fun k => by unfold Addr.add; split <;> simp_all
      rw [ha] at c0 c1
      exact ⟨b, o, rfl, c0, by rw [← Nat.add_assoc] at c1; exact c1⟩
    · intro q hq
      obtain ⟨i, hi, rfl⟩ := List.mem_map.1 hq
      obtain ⟨x', y', _, _, v0, v1, wx, wy⟩ := key i (List.mem_range.1 hi)
      simp only [v0, v1, intIn]
      exact ⟨wf_i64 wx, wf_i64 wy⟩
end Go.Proofs.YtacedfcckkpciaaGreatDoor

namespace Go.Proofs.YtacedfcckkpciaaGreatDoor
open Go.ChangeShapes Go.WideShapes Go.ChangeAt Go.RowKit Go.Joins Go.Deep

theorem open_intsL {H : Type} {enc : TypeId × Value → H} {W : World} {v : Value} {d : DataW H} {p : List MemPlace} (hv : ∃ a len cap, v = .slice a len cap)
    (h : DataW.Trod enc Tryz.prog W 0 (fun _ => true) true 59 v d p) :
    ∃ ao l cap, v = .slice ao l.length cap ∧ intsAt W ao l ∧ (∀ x ∈ l, -9223372036854775808 ≤ x ∧ x < 9223372036854775808) ∧ l.length ≤ maxLen := by
  obtain ⟨fuel, h⟩ := h
  obtain ⟨a0, len0, cap0, rfl⟩ := hv
  rcases open_ints Tryz.underlying59 Tryz.underlying3 cellsInt' h with ⟨hc, _⟩ | ⟨a, len, cap, zs, hc, _, hl, hm, hz, _, hcell, hwf⟩
  · simp [Value.cells] at hc
    obtain ⟨rfl, rfl, rfl⟩ := hc
    exact ⟨none, [], 0, rfl, (fun i x h => by simp at h), (fun x hx => by cases hx), Nat.zero_le _⟩
  · simp [Value.cells] at hc
    obtain ⟨rfl, rfl, rfl⟩ := hc
    simp only [if_true] at hz
    have hlen : (zs.take len0).length = len0 := by rw [List.length_take]; omega
    refine ⟨some a, zs.take len0, cap0, by rw [hlen], ?_, fun x hx => wf_i64 (hwf x (List.mem_of_mem_take hx)), by rw [hlen]; omega⟩
    intro i x hx
    obtain ⟨hi, e⟩ := List.getElem?_eq_some_iff.1 hx
    rw [hlen] at hi
    have hc := hcell i (by omega)
    have he : zs.getD i 0 = x := by
      rw [List.getElem_take] at e
      rw [List.getD_eq_getElem?_getD, List.getElem?_eq_getElem (by omega), e]; rfl
    rw [he] at hc
    have hc0 := hcell 0 (by omega)
    have hs := World.cell?_spot hc0
    obtain ⟨b, o, sp⟩ := a
    have hsp : sp = none := by simpa [Addr.add] using hs
    subst hsp
    have ha : (⟨b, o, none⟩ : Addr).add i = ⟨b, o + i, none⟩ := by unfold Addr.add; split <;> simp_all
    rw [ha] at hc
    exact ⟨b, o, rfl, hc⟩
end Go.Proofs.YtacedfcckkpciaaGreatDoor
