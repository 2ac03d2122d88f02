/- Does a span of a number stand ahead of a node (ahead)? -/
import Derived.Test.YtgbbldbkkmjedaaDoorTreeL
import Derived.Test.YtgbbldbkkmjedaaDoorOr
namespace Go.Proofs.YtgbbldbkkmjedaaDoor
open Go.RowKit Go.Deep Go.Shelf Go.Sort

def aheadB (x y : It) : Bool := decide (aheadP x y)
theorem ahead_cmp (x y : It) : decide (orI [Lib.compareInt x.1 y.1, Lib.compareInt x.2.1 y.2.1] < 0) = aheadB x y := by
  unfold aheadB aheadP orI Lib.compareInt
  by_cases h1 : x.1 < y.1 <;> by_cases h2 : y.1 < x.1 <;> by_cases h3 : x.2.1 < y.2.1 <;> by_cases h4 : y.2.1 < x.2.1 <;> simp [h1, h2, h3, h4] <;> omega

set_option maxRecDepth 100000 in
set_option maxHeartbeats 1000000 in
theorem ahead_any (id f t : Int) (b : Nat) (a : Nd) (l r : Value) (w : World) (hb : w.heap[b]? = some (nodeO a l r)) :
    Calls Tryd.prog 89 #[.agg #[.int .i64 f, .int .i64 t], .int .i64 id, .pointer (some ⟨b, 0, none⟩)] w fun e w' => e = .returned (.bool (aheadB (f, id, t) (itN a))) ∧ Below w.heap.size w w' := by
  obtain ⟨r1, h1⟩ : ∃ r, r = Lib.compareInt f a.f := ⟨_, rfl⟩
  obtain ⟨r2, h2⟩ : ∃ r, r = Lib.compareInt id a.id := ⟨_, rfl⟩
  have hr : decide (orI [r1, r2] < 0) = aheadB (f, id, t) (itN a) := by rw [h1, h2]; exact ahead_cmp (f, id, t) (itN a)
  have HR := Lib.hid hr
  have c1 := fun w => Tryd.cmp_Compare_int f a.f w
  have c2 := fun w => Tryd.cmp_Compare_int id a.id w
  rw [← h1] at c1
  rw [← h2] at c2
  clear hr h1 h2
  have C1 := Lib.hid c1
  have C2 := Lib.hid c2
  clear c1 c2
  obtain ⟨W, hW⟩ : ∃ W, W = w.alloc (.cells #[.int .i64 f, .int .i64 t] 34) := ⟨_, rfl⟩
  have hBW : Below w.heap.size w W := by rw [hW]; exact (Below.refl _ _).alloc (Nat.le_refl _) _
  have k1 : W.cell? ⟨w.heap.size, 0, none⟩ = some (.int .i64 f) := by rw [hW]; simp
  have hbl := lt_of_block hb
  have hb1 : W.heap[b]? = some (nodeO a l r) := (hBW.block b hbl).trans hb
  obtain ⟨d0, d1, _, _, _, _, _⟩ := node_cells hb1
  have hsW : W.heap.size = w.heap.size + 1 := by rw [hW]; simp
  have hlt : w.heap.size < W.heap.size := by omega
  have hlt1 : b < W.heap.size := by omega
  have HW := Lib.hid hW
  have q1 : ∀ o, (W.alloc o).cell? ⟨w.heap.size, 0, none⟩ = some (.int .i64 f) := fun o => by rw [World.cell?_alloc_past _ _ _ hlt]; exact k1
  have q2 : ∀ o, (W.alloc o).cell? ⟨b, 0, none⟩ = some (.int .i64 a.id) := fun o => by rw [World.cell?_alloc_past _ _ _ hlt1]; exact d0
  have q3 : ∀ o, (W.alloc o).cell? ⟨b, 1, none⟩ = some (.int .i64 a.f) := fun o => by rw [World.cell?_alloc_past _ _ _ hlt1]; exact d1
  have Q1 := Lib.hid q1
  have Q2 := Lib.hid q2
  have Q3 := Lib.hid q3
  clear hW hsW q1 q2 q3 hb hb1
  go_enter Tryd.func89, Tryd.ntmps89
  go_wp2
  rw [← HW.out]
  go_region_held3 (fun w' => w'.cell? ⟨w.heap.size, 0, none⟩ = some (.int .i64 f) ∧ w'.cell? ⟨b, 0, none⟩ = some (.int .i64 a.id) ∧ w'.cell? ⟨b, 1, none⟩ = some (.int .i64 a.f) ∧ Below w.heap.size w w')
    (first | exact ⟨k1, d0, d1, hBW.drew⟩ | assumption | exact ⟨Q1.out _, Q2.out _, Q3.out _, (hBW.alloc (by omega) _).drew⟩)
    (first
      | (go_at_call 78; first | ((with_reducible refine (C1.out _).mono ?_); rintro e w' ⟨rfl, rfl⟩) | ((with_reducible refine (C2.out _).mono ?_); rintro e w' ⟨rfl, rfl⟩))
      | (go_at_call 77; refine (or_any [r1, r2] _ 2 (W.alloc (.cells #[.int .i64 r1, .int .i64 r2] 3)).drew (show intsAt (W.alloc (.cells #[.int .i64 r1, .int .i64 r2] 3)) _ _ from ints2 W r1 r2) (by simp [maxLen])).mono ?_; rintro e w' ⟨rfl, rfl⟩))
  go_wp2
  go_ret
  exact ⟨by rw [← HR.out]; rfl, (hBW.alloc (by omega) _).drew⟩
end Go.Proofs.YtgbbldbkkmjedaaDoor
