/- parted: one fixed example, true. -/
import Derived.Test.YtcdgochkcfogiaaSetP
namespace Go.Proofs.Ytcdgochkcfogiaa
open Go.RowKit Go.Shelf Go.Sort

theorem less_fixed : lessL 0 10 3 5 = [(0, 3), (5, 10)] := by decide
theorem canon_fixed : canon [(5, 7), (1, 3), (3, 4)] = [(1, 4), (5, 7)] := by
  refine canon_eq _ _ (by intro x hx; simp at hx; rcases hx with rfl | rfl | rfl <;> decide) (by simp [Norm]) fun t => ?_
  rw [Bool.eq_iff_iff]
  simp [inL, hasB]
  omega
theorem norm_fixed : Norm [(1, 4), (5, 7)] := by simp [Norm]
theorem spans3 (X : World) (n : Nat) (hn : X.heap.size = n) (a b c d e f : Int) : spansAt (X.alloc (.cells #[.int .i64 a, .int .i64 b, .int .i64 c, .int .i64 d, .int .i64 e, .int .i64 f] 23)) (some ⟨n, 0, none⟩) [(a, b), (c, d), (e, f)] := by
  subst hn
  intro i x y h
  match i, h with
  | 0, h => simp at h; obtain ⟨rfl, rfl⟩ := h; exact ⟨X.heap.size, 0, rfl, by simp, by simp⟩
  | 1, h => simp at h; obtain ⟨rfl, rfl⟩ := h; exact ⟨X.heap.size, 0, rfl, by simp, by simp⟩
  | 2, h => simp at h; obtain ⟨rfl, rfl⟩ := h; exact ⟨X.heap.size, 0, rfl, by simp, by simp⟩
  | i + 3, h => simp at h

set_option maxRecDepth 100000 in
set_option maxHeartbeats 400000 in
theorem parted_any (w : World) :
    Calls Try.prog 17 #[] w fun e w' => e = .returned (.bool true) ∧ Below w.heap.size w w' := by
  go_enter Try.func17, Try.ntmps17
  go_wp2_with fail
  refine (less_any 0 10 3 5 _).mono ?_
  rintro e w1 ⟨v1, rfl, ho1, hb1⟩
  rw [less_fixed] at ho1
  obtain ⟨a1, c1, rfl, s1⟩ := ownsRow_spans ho1
  go_wp2_with fail
  refine (of_res [(5, 7), (1, 3), (3, 4)] _ 3 _ (spans3 w1 w1.heap.size rfl 5 7 1 3 3 4) (by intro p hp; simp at hp; rcases hp with rfl | rfl | rfl <;> decide) (by decide)).mono ?_
  rintro e w2 ⟨rx, ry, rfl, hb2, hres⟩
  obtain ⟨b, rfl, rfl, hset⟩ := hres.ok (by rw [canon_fixed]; decide)
  rw [canon_fixed] at hset
  have hbo := below_over hb2
  have hB := below_step hb1 hbo
  have s1 := s1.below hbo
  obtain ⟨p1, o1, rfl, d1, d2⟩ := s1 0 0 3 rfl
  obtain ⟨p2, o2, e2, d3, d4⟩ := s1 1 5 10 rfl
  cases e2
  simp only [Nat.zero_mul, Nat.add_zero, Nat.one_mul] at d1 d2 d3 d4
  have d4' : w2.cell? ⟨p1, o1 + 3, none⟩ = some (.int .i64 10) := d4
  have hh3 := fun W (hs : setAt W b [(1, 4), (5, 7)]) => setHas_any b [(1, 4), (5, 7)] 3 W hs norm_fixed
  have hh4 := fun W (hs : setAt W b [(1, 4), (5, 7)]) => setHas_any b [(1, 4), (5, 7)] 4 W hs norm_fixed
  rw [show inL [(1, 4), (5, 7)] 3 = true by decide] at hh3
  rw [show inL [(1, 4), (5, 7)] 4 = false by decide] at hh4
  clear ho1 hres hb1 hbo hb2
  go_wp2_with (first
    | (go_at_call 24; (with_reducible refine (spans_any b [(1, 4), (5, 7)] w2 hset).mono ?_); rintro e w3 ⟨v3, rfl, ho3, hb3⟩; obtain ⟨a3, c3, rfl, s3⟩ := ownsRow_spans ho3; have hset3 := hset.below hb3; have hB3 := below_step hB hb3)
    | (go_at_call 23; (with_reducible refine (hh3 w3 hset3).mono ?_); rintro e w4 ⟨rfl, hb4⟩; have hset4 := hset3.below hb4; have hB4 := below_step hB3 hb4)
    | (go_at_call 23; (with_reducible refine (hh4 w4 hset4).mono ?_); rintro e w5 ⟨rfl, hb5⟩; have hB5 := below_step hB4 hb5))
  go_ret
  exact ⟨rfl, hB5⟩
end Go.Proofs.Ytcdgochkcfogiaa
