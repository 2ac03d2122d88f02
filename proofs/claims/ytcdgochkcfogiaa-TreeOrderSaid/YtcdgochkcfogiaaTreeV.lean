/- A span of small times (TreeOrder's closure). -/
import Derived.Test.YtcdgochkcfogiaaTreeU
namespace Go.Proofs.Ytcdgochkcfogiaa
open Go.RowKit Go.Deep

theorem fitP_right (p : Int × Int) : rightB (fitP p).1 (fitP p).2 = true := by
  have h1 := pickI_lt p.1 200 (by decide) (by decide)
  have h2 := pickI_lt p.2 50 (by decide) (by decide)
  unfold rightB fitP
  simp only [decide_eq_true_eq]
  omega
set_option maxRecDepth 100000 in
theorem fitSpan_any (x y : Int) (w : World) (hx : -9223372036854775808 ≤ x ∧ x < 9223372036854775808) (hy : -9223372036854775808 ≤ y ∧ y < 9223372036854775808) :
    Calls Try.prog 26 #[.agg #[.int .i64 x, .int .i64 y]] w fun e w' => e = .returned (.agg #[.int .i64 (fitP (x, y)).1, .int .i64 (fitP (x, y)).2]) ∧ Below w.heap.size w w' := by
  have h1 := pickI_lt x 200 (by decide) (by decide)
  have h2 := pickI_lt y 50 (by decide) (by decide)
  obtain ⟨x1, x2⟩ := hx
  obtain ⟨y1, y2⟩ := hy
  have c1 := fun W => pick_any x 200 W x1 x2 (by decide) (by decide)
  have c2 := fun W => pick_any y 50 W y1 y2 (by decide) (by decide)
  have e : fitP (x, y) = (pickI x 200, pickI x 200 + 1 + pickI y 50) := rfl
  have E := Lib.hid e
  generalize pickI x 200 = a at *
  generalize pickI y 50 = b at *
  clear e
  go_enter Try.func26, Try.ntmps26
  go_wp2_with fail
  refine (c1 _).mono ?_
  rintro e w1 ⟨rfl, rfl⟩
  go_wp2_with fail
  refine (c2 _).mono ?_
  rintro e w2 ⟨rfl, rfl⟩
  go_wp2_with fail
  exact bodyPost_ret (v := .agg #[.int .i64 a, .int .i64 (a + 1 + b)]) (by simp [results, Try.results26, go_sem]) rfl ⟨by rw [E.out], ((Below.refl _ w).alloc (Nat.le_refl _) _).alloc (by simp) _⟩
end Go.Proofs.Ytcdgochkcfogiaa
