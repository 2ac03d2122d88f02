/- A slice of numbers that comes in, opened. -/
import Derived.Deep.SlicePairs
import Derived.ProofKit
import Derived.Lib.SmallJoins
import Derived.Test.YtflhpmgjehjjkaaGreatDoorPickJq
import Derived.Test.YtflhpmgjehjjkaaGreatDoorSpanCJq
namespace Go.Proofs.YtflhpmgjehjjkaaGreatDoor
open Go.ChangeShapes Go.WideShapes Go.ChangeAt Go.RowKit Go.Joins Go.Deep

theorem cellsInt' : Tryz.prog.cellsOf 3 = 1 := by kernel_rfl
theorem wf_i64 {n : Int} (h : (Lit.int .i64 n).wf = true) : -9223372036854775808 ≤ n ∧ n < 9223372036854775808 := by
  simp [Lit.wf, IntKind.min, IntKind.max, IntKind.bits, IntKind.signed] at h
  omega

end Go.Proofs.YtflhpmgjehjjkaaGreatDoor

namespace Go.Proofs.YtflhpmgjehjjkaaGreatDoor
open Go.ChangeShapes Go.WideShapes Go.ChangeAt Go.RowKit Go.Joins Go.Deep

theorem open_intsL {H : Type} {enc : TypeId × Value → H} {W : World} {v : Value} {d : DataW H} {p : List MemPlace} (hv : ∃ a len cap, v = .slice a len cap)
    (h : DataW.Trod enc Tryz.prog W 0 (fun _ => true) true 46 v d p) :
    ∃ ao l cap, v = .slice ao l.length cap ∧ intsAt W ao l ∧ (∀ x ∈ l, -9223372036854775808 ≤ x ∧ x < 9223372036854775808) ∧ l.length ≤ maxLen := by
  obtain ⟨fuel, h⟩ := h
  obtain ⟨a0, len0, cap0, rfl⟩ := hv
  rcases open_ints Tryz.underlying46 Tryz.underlying3 cellsInt' h with ⟨hc, _⟩ | ⟨a, len, cap, zs, hc, _, hl, hm, hz, _, hcell, hwf⟩
  · simp [Value.cells] at hc
    obtain ⟨rfl, rfl, rfl⟩ := hc
    exact ⟨none, [], 0, rfl, (fun i x h => by simp at h), (fun x hx => by cases hx), Nat.zero_le _⟩
  · simp [Value.cells] at hc
    obtain ⟨rfl, rfl, rfl⟩ := hc
    simp only [if_true] at hz
    have hlen : (zs.take len0).length = len0 := by rw [List.length_take]; omega
    refine ⟨some a, zs.take len0, cap0, by rw [hlen], ?_, fun x hx => wf_i64 (hwf x (List.mem_of_mem_take hx)), by rw [hlen]; omega⟩
    intro i x hx
    obtain ⟨hi, e⟩ := List.getElem?_eq_some_iff.1 hx
    rw [hlen] at hi
    have hc := hcell i (by omega)
    have he : zs.getD i 0 = x := by
      rw [List.getElem_take] at e
      rw [List.getD_eq_getElem?_getD, List.getElem?_eq_getElem (by omega), e]; rfl
    rw [he] at hc
    have hc0 := hcell 0 (by omega)
    have hs := World.cell?_spot hc0
    obtain ⟨b, o, sp⟩ := a
    have hsp : sp = none := by simpa [Addr.add] using hs
    subst hsp
    have ha : (⟨b, o, none⟩ : Addr).add i = ⟨b, o + i, none⟩ := by unfold Addr.add; split <;> simp_all
    rw [ha] at hc
    exact ⟨b, o, rfl, hc⟩
end Go.Proofs.YtflhpmgjehjjkaaGreatDoor
