/- SpanSums is proved: whatever three slices of spans come in, the call returns true, and each argument reads afterwards as it read before. There are no conditions. -/
import Derived.Test.YtcdgochkcfogiaaSetS
import Derived.Test.YtcdgochkcfogiaaSetT
namespace Go.Proofs.Ytcdgochkcfogiaa
open Go.ChangeShapes Go.WideShapes Go.ChangeAt Go.RowKit Go.Joins

theorem ownSums : ownKnob Try.prog.godebug = none := by kernel_rfl
theorem laidOutSums : laidOutB Try.prog = true := by kernel_rfl

set_option maxRecDepth 100000 in
theorem spanSums_lifted (os : Os) (started : os.Started) (H : Type) (enc : TypeId × Value → H) :
    ReturnsInHanded {} Try.checked os 4 .any (Rows.spanSumsSpec.pre6 enc Try.prog Try.f4 Rows.spanSumsRow.domain false) (Rows.spanSumsSpec.post enc Try.prog Try.f4 false true false false) := by
  refine returnsInHanded_of_change (C := Try.checked) ownSums started (by kernel_rfl) Try.func4
    (ChangeSpec.witness6 (enc := enc) (C := Try.checked) false ⟨#[], #[.slice none 0 0, .slice none 0 0, .slice none 0 0], []⟩ 8 (by kernel_rfl) (by kernel_rfl) (by kernel_rfl) (by kernel_rfl)) ?_
  intro W base args ds gs before hval0 hW _ _
  have hval : ∀ (j : Nat) t v, Try.f4.params[j]? = some t → args[j]? = some v → Value.okWide Try.prog W .any base t v := hval0
  have hW' := hW
  obtain ⟨p, q, hA0, hV, rfl, _, _⟩ := hW
  have hA : DataW.TrodAll enc Try.prog W 0 (fun _ => true) true Try.f4.params.toList args.toList ds p := hA0
  rw [Try.params4] at hA hval
  obtain ⟨v0, v1, v2, d0, d1, d2, p0, p1, p2, rfl, rfl, rfl, h0, h1, h2⟩ := trodAll_three hA
  obtain ⟨rfl, rfl⟩ := trodVars_none hV
  have h0k := h0
  have h1k := h1
  have h2k := h2
  obtain ⟨a0, l0, c0, rfl, s0, i0, m0⟩ := open_spans (okWide_slice Try.underlying26 (hval 0 26 v0 rfl rfl)) h0
  obtain ⟨a1, l1, c1, rfl, s1, i1, m1⟩ := open_spans (okWide_slice Try.underlying26 (hval 1 26 v1 rfl rfl)) h1
  obtain ⟨a2, l2, c2, rfl, s2, i2, m2⟩ := open_spans (okWide_slice Try.underlying26 (hval 2 26 v2 rfl rfl)) h2
  have hlt : ∀ x ∈ p0 ++ p1 ++ p2, x.block < W.heap.size := fun x hx => by have := hW'.lt x (by simpa using hx); simpa using this
  clear hA0 hval0 h0 h1 h2
  simp only [List.append_nil] at hW'
  refine (spanSums_walk l0 l1 l2 a0 a1 a2 c0 c1 c2 W s0 s1 s2 m0 m1 m2 i0 i1 i2).mono fun e W' ⟨he, hb⟩ => ?_
  subst he
  have t0 := Below.trod laidOutSums (by kernel_rfl) (of_decide_eq_true (by kernel_rfl)) h0k hb (fun x hx => hlt x (by simp [hx]))
  have t1 := Below.trod laidOutSums (by kernel_rfl) (of_decide_eq_true (by kernel_rfl)) h1k hb (fun x hx => hlt x (by simp [hx]))
  have t2 := Below.trod laidOutSums (by kernel_rfl) (of_decide_eq_true (by kernel_rfl)) h2k hb (fun x hx => hlt x (by simp [hx]))
  exact ⟨_, rfl, _, _, _, [], _, [], hW', trodAll_mk1 (shut_bool Try.underlying4 _), trodAll_mk3 t0 t1 t2, rfl, hb.frame _, fun h => by cases h⟩

theorem spanSums_holds : Rows.SpanSumsSaid :=
  OpenClaim.holds_of_wide 4 Try.f4 rfl rfl rfl rfl rfl rfl rfl ⟨rfl, rfl, rfl, rfl, rfl⟩ rfl rfl rfl rfl rfl (by kernel_rfl) Try.func4 (by kernel_rfl)
    (of_decide_eq_true (by kernel_rfl)) (by unfold Func.isWrapper; first | (rw [if_pos (by decide +kernel)]; kernel_rfl) | (rw [if_neg (by decide +kernel)]; exact ⟨rfl, rfl⟩))
    (fun os started H enc _ => spanSums_lifted os started H enc)
#print axioms spanSums_holds
end Go.Proofs.Ytcdgochkcfogiaa
