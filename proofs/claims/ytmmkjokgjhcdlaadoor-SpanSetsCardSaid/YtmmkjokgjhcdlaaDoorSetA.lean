/- How spans are sorted: cmp.Or, the comparison that span.Of hands to slices.SortFunc, and the sort of a slice of spans of the call's own. -/
import Derived.Test.YtmmkjokgjhcdlaaDoorSpanD
import Derived.Test.YtmmkjokgjhcdlaaDoorSpanE
import Derived.Test.YtmmkjokgjhcdlaaDoorSortK
import Derived.Test.YtmmkjokgjhcdlaaDoorBeside
import Derived.Test.YtmmkjokgjhcdlaaDoorOr
import Derived.Deep.RegionHeld3
namespace Go.Proofs.YtmmkjokgjhcdlaaDoor
open Go.RowKit Go.Shelf Go.Sort

/-- The order of spans: by beginning, then by end. -/
def cmpS (x y : Int × Int) : Int := orI [Lib.compareInt x.1 y.1, Lib.compareInt x.2 y.2]
def encS (x : Int × Int) : List Value := [.int .i64 x.1, .int .i64 x.2]

set_option maxRecDepth 100000 in
theorem of1_any (x y : Int × Int) (w : World) : Calls Tryd.prog 27 #[.agg #[.int .i64 x.1, .int .i64 x.2], .agg #[.int .i64 y.1, .int .i64 y.2]] w fun e w' => e = .returned (.int .i64 (cmpS x y)) ∧ Lays w w' := by
  obtain ⟨a, b⟩ := x
  obtain ⟨c, d⟩ := y
  obtain ⟨r1, h1⟩ : ∃ r, r = Lib.compareInt a c := ⟨_, rfl⟩
  obtain ⟨r2, h2⟩ : ∃ r, r = Lib.compareInt b d := ⟨_, rfl⟩
  have hr : cmpS (a, b) (c, d) = orI [r1, r2] := by rw [h1, h2]; rfl
  have HR := Lib.hid hr
  have c1 := fun w => Tryd.cmp_Compare_int a c w
  have c2 := fun w => Tryd.cmp_Compare_int b d w
  rw [← h1] at c1
  rw [← h2] at c2
  clear hr h1 h2
  have C1 := Lib.hid c1
  have C2 := Lib.hid c2
  clear c1 c2
  obtain ⟨W, hW⟩ : ∃ W, W = ((w.alloc (.cells #[.int .i64 a, .int .i64 b] 29)).alloc (.cells #[.int .i64 c, .int .i64 d] 29)) := ⟨_, rfl⟩
  have hsW : W.heap.size = w.heap.size + 2 := by rw [hW]; simp
  have hLW : Lays w W := by rw [hW]; exact ((Lays.refl _).alloc _).alloc _
  have k1 : W.cell? ⟨w.heap.size, 0, none⟩ = some (.int .i64 a) := by rw [hW]; simp
  have k2 : W.cell? ⟨w.heap.size, 1, none⟩ = some (.int .i64 b) := by rw [hW]; simp
  have k3 : W.cell? ⟨w.heap.size + 1, 0, none⟩ = some (.int .i64 c) := by rw [hW]; simp
  have k4 : W.cell? ⟨w.heap.size + 1, 1, none⟩ = some (.int .i64 d) := by rw [hW]; simp
  have HW := Lib.hid hW
  have hlt : w.heap.size < W.heap.size := by omega
  have hlt1 : w.heap.size + 1 < W.heap.size := by omega
  have q1 : ∀ o, (W.alloc o).cell? ⟨w.heap.size, 0, none⟩ = some (.int .i64 a) := fun o => by rw [World.cell?_alloc_past _ _ _ hlt]; exact k1
  have q2 : ∀ o, (W.alloc o).cell? ⟨w.heap.size, 1, none⟩ = some (.int .i64 b) := fun o => by rw [World.cell?_alloc_past _ _ _ hlt]; exact k2
  have q3 : ∀ o, (W.alloc o).cell? ⟨w.heap.size + 1, 0, none⟩ = some (.int .i64 c) := fun o => by rw [World.cell?_alloc_past _ _ _ hlt1]; exact k3
  have q4 : ∀ o, (W.alloc o).cell? ⟨w.heap.size + 1, 1, none⟩ = some (.int .i64 d) := fun o => by rw [World.cell?_alloc_past _ _ _ hlt1]; exact k4
  have Q1 := Lib.hid q1
  have Q2 := Lib.hid q2
  have Q3 := Lib.hid q3
  have Q4 := Lib.hid q4
  clear hW hsW q1 q2 q3 q4
  go_enter Tryd.func27, Tryd.ntmps27
  go_wp2
  rw [← HW.out]
  go_region_held3 (fun w' => w'.cell? ⟨w.heap.size, 0, none⟩ = some (.int .i64 a) ∧ w'.cell? ⟨w.heap.size, 1, none⟩ = some (.int .i64 b) ∧ w'.cell? ⟨w.heap.size + 1, 0, none⟩ = some (.int .i64 c) ∧ w'.cell? ⟨w.heap.size + 1, 1, none⟩ = some (.int .i64 d) ∧ Lays w w')
    (first | exact ⟨k1, k2, k3, k4, hLW.drew⟩ | assumption | exact ⟨Q1.out _, Q2.out _, Q3.out _, Q4.out _, (hLW.alloc _).drew⟩)
    (first
      | (go_at_call 29; first | ((with_reducible refine (C1.out _).mono ?_); rintro e w' ⟨rfl, rfl⟩) | ((with_reducible refine (C2.out _).mono ?_); rintro e w' ⟨rfl, rfl⟩))
      | (go_at_call 28; refine (or_any [r1, r2] _ 2 (W.alloc (.cells #[.int .i64 r1, .int .i64 r2] 3)).drew (show intsAt (W.alloc (.cells #[.int .i64 r1, .int .i64 r2] 3)) _ _ from ints2 W r1 r2) (by simp [maxLen])).mono ?_; rintro e w' ⟨rfl, rfl⟩))
  go_wp2
  go_ret
  exact ⟨by rw [HR.out]; rfl, (hLW.alloc _).drew⟩

/-! ### The sort -/
theorem cmpS_lt (x y : Int × Int) : ltOf cmpS x y = decide (x.1 < y.1 ∨ x.1 = y.1 ∧ x.2 < y.2) := by
  unfold ltOf cmpS orI Lib.compareInt
  by_cases h1 : x.1 < y.1 <;> by_cases h2 : y.1 < x.1 <;> by_cases h3 : x.2 < y.2 <;> by_cases h4 : y.2 < x.2 <;> simp [h1, h2, h3, h4] <;> omega
theorem swoS : SWO (ltOf cmpS) where
  irrefl x := by rw [cmpS_lt]; simp
  trans x y z h1 h2 := by rw [cmpS_lt] at *; simp at *; omega
  ntrans x y z h1 h2 := by rw [cmpS_lt] at *; simp at *; omega
theorem totS (x y : Int × Int) (h1 : ltOf cmpS x y = false) (h2 : ltOf cmpS y x = false) : x = y := by
  rw [cmpS_lt] at *
  simp at h1 h2
  exact Prod.ext (by omega) (by omega)
def sortS (l : List (Int × Int)) : List (Int × Int) := l.mergeSort fun x y => !(ltOf cmpS) y x
theorem sortSpans_own (base : Nat) (v : Value) (l : List (Int × Int)) (w : World) (hown : w.ownsRow base 29 2 v l.length (flat l)) (hb : base ≤ w.heap.size) (hsz : l.length < 4611686018427387904) :
    Calls Tryd.prog 26 #[v, .func (.func 27) #[] #[]] w fun e' w' => e' = .returned (.tuple #[]) ∧ w'.ownsRow base 29 2 v l.length (flat (sortS l)) ∧ Below base w w' :=
  sortFunc_own Tryd.sortSpan 2 (by decide) Tryd.isAgg29 Tryd.sizeOf29 encS (fun _ => rfl) (fun x v hv => by simp [encS] at hv; rcases hv with rfl | rfl <;> rfl) cmpS swoS totS 27 #[] (enters_of Tryd.func27 (by kernel_rfl) rfl)
    (fun W x y => of1_any x y W) base 29 v l w hown hb hsz
end Go.Proofs.YtmmkjokgjhcdlaaDoor
