/- Plain law: what both sets have. -/
import Derived.Test.YtmmkjokgjhcdlaaDoorSetN
namespace Go.Proofs.YtmmkjokgjhcdlaaDoor

theorem meetL_in (a b : Int × Int) (t : Int) : inL (meetL a b) t = (hasB a.1 a.2 t && hasB b.1 b.2 t) := by
  obtain ⟨a1, a2⟩ := a
  obtain ⟨b1, b2⟩ := b
  unfold meetL part1 imax imin
  rw [Bool.eq_iff_iff, Bool.and_eq_true, hasB_iff, hasB_iff]
  split
  · rw [inL_iff]; simp; omega
  · rename_i h
    simp at h ⊢
    omega
theorem bothL_in (l m : List (Int × Int)) (t : Int) : inL (bothL l m) t = (inL l t && inL m t) := by
  unfold bothL
  rw [inL_flatMap]
  induction l with
  | nil => simp
  | cons a l ih =>
    rw [List.any_cons, ih, inL_cons, inL_flatMap]
    have : (m.any fun b => inL (meetL a b) t) = (hasB a.1 a.2 t && inL m t) := by
      clear ih
      induction m with
      | nil => simp
      | cons b m ih => rw [List.any_cons, ih, inL_cons, meetL_in]; cases hasB a.1 a.2 t <;> simp
    rw [this]
    cases hasB a.1 a.2 t <;> cases inL l t <;> cases inL m t <;> rfl
end Go.Proofs.YtmmkjokgjhcdlaaDoor
