/- TreeOrder is proved: whatever two slices of spans, number and slice of numbers come in, the call returns true, and each argument reads afterwards as it read before. There are no conditions. -/
import Derived.Test.YtcdgochkcfogiaaTreeW
import Derived.Test.YtcdgochkcfogiaaTreeX
namespace Go.Proofs.Ytcdgochkcfogiaa
open Go.ChangeShapes Go.WideShapes Go.ChangeAt Go.RowKit Go.Joins

theorem ownOrder : ownKnob Try.prog.godebug = none := by kernel_rfl
theorem laidOutOrder : laidOutB Try.prog = true := by kernel_rfl

set_option maxRecDepth 100000 in
theorem treeOrder_lifted (os : Os) (started : os.Started) (H : Type) (enc : TypeId × Value → H) :
    ReturnsInHanded {} Try.checked os 5 .any (Rows.treeOrderSpec.pre6 enc Try.prog Try.f5 Rows.treeOrderRow.domain false) (Rows.treeOrderSpec.post enc Try.prog Try.f5 false true false false) := by
  refine returnsInHanded_of_change (C := Try.checked) ownOrder started (by kernel_rfl) Try.func5
    (ChangeSpec.witness6 (enc := enc) (C := Try.checked) false ⟨#[], #[.slice none 0 0, .slice none 0 0, .int .i64 0, .slice none 0 0], []⟩ 8 (by kernel_rfl) (by kernel_rfl) (by kernel_rfl) (by kernel_rfl)) ?_
  intro W base args ds gs before hval0 hW _ _
  have hval : ∀ (j : Nat) t v, Try.f5.params[j]? = some t → args[j]? = some v → Value.okWide Try.prog W .any base t v := hval0
  have hW' := hW
  obtain ⟨p, q, hA0, hV, rfl, _, _⟩ := hW
  have hA : DataW.TrodAll enc Try.prog W 0 (fun _ => true) true Try.f5.params.toList args.toList ds p := hA0
  rw [Try.params5] at hA hval
  obtain ⟨v0, v1, v2, v3, d0, d1, d2, d3, p0, p1, p2, p3, rfl, rfl, rfl, h0, h1, h2, h3⟩ := trodAll_four hA
  obtain ⟨rfl, rfl⟩ := trodVars_none hV
  have h0k := h0
  have h1k := h1
  have h2k := h2
  have h3k := h3
  obtain ⟨a0, l0, c0, rfl, s0, i0, m0⟩ := open_spans (okWide_slice Try.underlying26 (hval 0 26 v0 rfl rfl)) h0
  obtain ⟨a1, l1, c1, rfl, s1, i1, m1⟩ := open_spans (okWide_slice Try.underlying26 (hval 1 26 v1 rfl rfl)) h1
  obtain ⟨x, rfl, hx2, hx3, wx⟩ := open_int Try.underlying3 (hval 2 3 v2 rfl rfl) h2
  obtain ⟨a3, l3, c3, rfl, s3, i3, m3⟩ := open_intsL (okWide_slice Try.underlying28 (hval 3 28 v3 rfl rfl)) h3
  have hlt : ∀ x ∈ p0 ++ p1 ++ p2 ++ p3, x.block < W.heap.size := fun x hx => by have := hW'.lt x (by simpa using hx); simpa using this
  clear hA0 hval0 h0 h1 h2 h3
  simp only [List.append_nil] at hW'
  refine (treeOrder_walk l0 l1 l3 x a0 a1 a3 c0 c1 c3 W s0 s1 s3 m0 m1 m3 i0 i1 (wf_i64 wx) i3).mono fun e W' ⟨he, hb⟩ => ?_
  subst he
  have t0 := Below.trod laidOutOrder (by kernel_rfl) (of_decide_eq_true (by kernel_rfl)) h0k hb (fun x hx => hlt x (by simp [hx]))
  have t1 := Below.trod laidOutOrder (by kernel_rfl) (of_decide_eq_true (by kernel_rfl)) h1k hb (fun x hx => hlt x (by simp [hx]))
  have t2 := Below.trod laidOutOrder (by kernel_rfl) (of_decide_eq_true (by kernel_rfl)) h2k hb (fun x hx => hlt x (by simp [hx]))
  have t3 := Below.trod laidOutOrder (by kernel_rfl) (of_decide_eq_true (by kernel_rfl)) h3k hb (fun x hx => hlt x (by simp [hx]))
  exact ⟨_, rfl, _, _, _, [], _, [], hW', trodAll_mk1 (shut_bool Try.underlying4 _), trodAll_mk4 t0 t1 t2 t3, rfl, hb.frame _, fun h => by cases h⟩

theorem treeOrder_holds : Rows.TreeOrderSaid :=
  OpenClaim.holds_of_wide 5 Try.f5 rfl rfl rfl rfl rfl rfl rfl ⟨rfl, rfl, rfl, rfl, rfl⟩ rfl rfl rfl rfl rfl (by kernel_rfl) Try.func5 (by kernel_rfl)
    (of_decide_eq_true (by kernel_rfl)) (by unfold Func.isWrapper; first | (rw [if_pos (by decide +kernel)]; kernel_rfl) | (rw [if_neg (by decide +kernel)]; exact ⟨rfl, rfl⟩))
    (fun os started H enc _ => treeOrder_lifted os started H enc)
#print axioms treeOrder_holds
end Go.Proofs.Ytcdgochkcfogiaa
