/- SpanParts: its two function literals, the plain law, and its walk: whatever the spans and the time, the answer is true. -/
import Derived.Test.YtmmkjokgjhcdlaaDoorSpanD
import Derived.Test.YtmmkjokgjhcdlaaDoorSpanE
import Derived.Deep.RegionHeld3
namespace Go.Proofs.YtmmkjokgjhcdlaaDoor
open Go.RowKit Go.Shelf Go.Sort

def bothP (a b c d x : Int) : Bool := hasB a b x && hasB c d x
def lessP (a b c d x : Int) : Bool := hasB a b x && !hasB c d x

/-! ### The plain law -/
theorem norm_part1 (f t : Int) : Norm (part1 f t) := by
  unfold part1; split
  · exact ⟨by assumption, by simp, trivial⟩
  · trivial
theorem inL_part1 (f t x : Int) : inL (part1 f t) x = hasB f t x := by
  unfold part1; split
  · simp
  · symm; rw [inL_nil, Bool.eq_false_iff]; intro h; have := (hasB_iff ..).1 h; omega
theorem ruled_same (f t : Int) (es : List Int) (hf : f ∈ es) (ht : t ∈ es) : ∀ x x', x ≤ x' → (∀ e ∈ es, ¬ (x < e ∧ e ≤ x')) → hasB f t x = hasB f t x' := (ruled_has f t es hf ht).same
theorem both_eq (a b c d : Int) : whereL (bothP a b c d) (sortI (endsLL [[(a, b), (c, d)]])) = part1 (imax a c) (imin b d) := by
  have hR : Ruled (bothP a b c d) [a, b, c, d] := (ruled_has a b _ (by simp) (by simp)).and (ruled_same c d _ (by simp) (by simp))
  obtain ⟨h1, h2⟩ := whereL_spec (bothP a b c d) [a, b, c, d] (sortI (endsLL [[(a, b), (c, d)]])) hR (sortI_sorted _) (fun x => by rw [← mem_sortI]; simp [endsLL, endsL])
  refine norm_ext h1 (norm_part1 _ _) fun x => ?_
  rw [h2, inL_part1]
  unfold bothP hasB imax imin
  rw [← Bool.decide_and, decide_eq_decide]; omega
theorem less_eq (a b c d : Int) : whereL (lessP a b c d) (sortI (endsLL [[(a, b), (c, d)]])) = lessL a b c d := by
  have hR : Ruled (lessP a b c d) [a, b, c, d] := (ruled_has a b _ (by simp) (by simp)).and (fun t t' ht h => by rw [ruled_same c d [a, b, c, d] (by simp) (by simp) t t' ht h])
  obtain ⟨h1, h2⟩ := whereL_spec (lessP a b c d) [a, b, c, d] (sortI (endsLL [[(a, b), (c, d)]])) hR (sortI_sorted _) (fun x => by rw [← mem_sortI]; simp [endsLL, endsL])
  have hx : ∀ x, lessP a b c d x = decide ((a ≤ x ∧ x < b) ∧ ¬ (c ≤ x ∧ x < d)) := fun x => by
    unfold lessP hasB; rw [← decide_not, ← Bool.decide_and]
  unfold lessL
  split
  · rename_i h
    refine norm_ext h1 ⟨h.2, by simp, trivial⟩ fun x => ?_
    rw [h2, hx]
    have := h.1
    unfold imax imin at this
    simp only [inL_cons, inL_nil, Bool.or_false, hasB, decide_eq_decide]; omega
  · rename_i h
    unfold imax imin at h
    refine norm_ext h1 ?_ fun x => ?_
    · unfold lessParts part1 imax imin
      split <;> split <;> simp [Norm] <;> omega
    · rw [h2, hx]
      unfold lessParts
      rw [inL_append, inL_part1, inL_part1]
      unfold hasB imin imax
      rw [← Bool.decide_or, decide_eq_decide]; omega

end Go.Proofs.YtmmkjokgjhcdlaaDoor
