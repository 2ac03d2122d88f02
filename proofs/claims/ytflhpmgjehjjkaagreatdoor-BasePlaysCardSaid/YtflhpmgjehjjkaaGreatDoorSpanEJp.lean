/- span.Less: the parts of a span that another one has not. -/
import Derived.Test.YtflhpmgjehjjkaaGreatDoorSpanCJp
namespace Go.Proofs.YtflhpmgjehjjkaaGreatDoor
open Go.RowKit Go.Shelf
def part1 (f t : Int) : List (Int × Int) := if f < t then [(f, t)] else []
def lessParts (a b c d : Int) : List (Int × Int) := part1 a (imin b c) ++ part1 (imax a d) b
def lessL (a b c d : Int) : List (Int × Int) := if ¬ imax a c < imin b d /\ a < b then [(a, b)] else lessParts a b c d
theorem part1_le (f t : Int) : (part1 f t).length <= 1 := by unfold part1; split <;> simp
theorem lessL_le (a b c d : Int) : (lessL a b c d).length <= 2 := by
 unfold lessL lessParts; split
 · simp
 · have := part1_le a (imin b c); have := part1_le (imax a d) b; simp only [List.length_append]; omega
theorem lessArr (x y z u : Int) : ∀ w, (Instr.index 244 (.agg #[.int .i64 x, .int .i64 y, .int .i64 z, .int .i64 u]) (.int .i64 0)).run Tryz.prog w = .ok (.agg #[.int .i64 x, .int .i64 y]) w ∧
  (Instr.index 244 (.agg #[.int .i64 x, .int .i64 y, .int .i64 z, .int .i64 u]) (.int .i64 1)).run Tryz.prog w = .ok (.agg #[.int .i64 z, .int .i64 u]) w := fun w => ⟨by kernel_rfl, by kernel_rfl⟩
theorem ownsSpan1 (w : World) (base : Nat) (f t : Int) (g : Nat) (hg : g = w.heap.size) (hb : base <= w.heap.size) : (w.alloc (.cells #[.int .i64 f, .int .i64 t] 68)).ownsRow base 68 2 (.slice (some ⟨g, 0, none⟩) 1 1) [(f, t)].length (flat [(f, t)]) := by
 subst hg; exact World.ownsRow_lit w #[.int .i64 f, .int .i64 t] 1 hb (by decide) rfl
set_option maxRecDepth 100000 in
theorem less_any (a b c d : Int) (w : World) :
  Calls Tryz.prog 97 #[.agg #[.int .i64 a, .int .i64 b], .agg #[.int .i64 c, .int .i64 d]] w fun e w' =>
   ∃ v, e = .returned v /\ w'.ownsRow w.heap.size 68 2 v (lessL a b c d).length (flat (lessL a b c d)) /\ Below w.heap.size w w' := by
 obtain ⟨i0, hi, hz0, hz1, hz2⟩ := info_parts infoSpan
 have i1 := fun w => (lessArr a (imin b c) (imax a d) b w).1
 have i2 := fun w => (lessArr a (imin b c) (imax a d) b w).2
 obtain ⟨W, hW⟩ : ∃ W, W = ((w.alloc (.cells #[.int .i64 a, .int .i64 b] 68)).alloc (.cells #[.int .i64 c, .int .i64 d] 68)) := ⟨_, rfl⟩
 have hsW : w.heap.size + 2 <= W.heap.size := by rw [hW]; simp
 have hBW : Below w.heap.size w W := by rw [hW]; exact ((Below.refl _ _).alloc (Nat.le_refl _) _).alloc (by simp) _
 have k1 : W.cell? ⟨w.heap.size, 0, none⟩ = some (.int .i64 a) := by rw [hW]; simp
 have k2 : W.cell? ⟨w.heap.size, 1, none⟩ = some (.int .i64 b) := by rw [hW]; simp
 have k3 : W.cell? ⟨w.heap.size + 1, 0, none⟩ = some (.int .i64 c) := by rw [hW]; simp
 have k4 : W.cell? ⟨w.heap.size + 1, 1, none⟩ = some (.int .i64 d) := by rw [hW]; simp
 have HW := Lib.hid hW
 clear hW
 go_enter Tryz.func97, Tryz.ntmps97
 go_wp2
 rw [<- HW.out]
 go_loopw [5, 27] (fun v i wr => ∃ k : Nat, k <= 2 /\ i = .int .i64 k /\ ∃ out : List (Int × Int), Hid (out = (if 1 <= k then part1 a (imin b c) else []) ++ (if 2 <= k then part1 (imax a d) b else [])) ∧
   wr.ownsRow W.heap.size 68 2 v out.length (flat out) /\ Below W.heap.size W wr) (fun _ i _ => 2 - (intOf i).toNat)
 case atStart => exact ⟨0, by omega, rfl, [], rfl, World.ownsRow_nil _ _ _ _, Below.refl _ _⟩
 case round =>
  obtain ⟨k, hk, rfl, out, hout, hown, hB⟩ := hrel
  have hsz := hB.size
  have c1 := below_cell hB (by omega) k1
  have c2 := below_cell hB (by omega) k2
  have c3 := below_cell hB (by omega) k3
  have c4 := below_cell hB (by omega) k4
  rcases (by omega : k = 0 \/ k = 1 \/ k = 2) with rfl | rfl | rfl
  · have e0 : out = [] := hout.out
    subst e0
    by_cases h1 : a < imin b c
    · go_wp2_with (at_builtin; refine appSpan rfl _ _ rfl W.heap.size _ [] rfl ((hown.alloc _).alloc _) (wr.heap.size + 1) a (imin b c) rfl (by simp) (by simp) (by decide) (by simp; omega) W ((hB.alloc (by omega) _).alloc (by simp; omega) _) ?_; intro v' w2 hown2 hB2 hs2 hg2)
      exact ⟨⟨1, by omega, rfl, [(a, imin b c)], (by show _ = _; simp [part1, h1]), hown2, hB2⟩, by simp [intOf]⟩
    · go_wp2
      exact ⟨⟨1, by omega, rfl, [], (by show _ = _; simp [part1, h1]), hown.alloc _, hB.alloc (by omega) _⟩, by simp [intOf]⟩
  · have e0 : out = part1 a (imin b c) := by have := hout.out; simpa using this
    have hle := part1_le a (imin b c)
    rw [<- e0] at hle
    have E0 := Lib.hid e0
    clear e0 hout
    by_cases h1 : imax a d < b
    · go_wp2_with (at_builtin; refine appSpan rfl _ _ rfl W.heap.size _ out rfl ((hown.alloc _).alloc _) (wr.heap.size + 1) (imax a d) b rfl (by simp) (by simp) (by omega) (by simp; omega) W ((hB.alloc (by omega) _).alloc (by simp; omega) _) ?_; intro v' w2 hown2 hB2 hs2 hg2)
      exact ⟨⟨2, by omega, rfl, out ++ [(imax a d, b)], (by show _ = _; simp [part1, h1, E0.out]), hown2, hB2⟩, by simp [intOf]⟩
    · go_wp2
      exact ⟨⟨2, by omega, rfl, out, (by show _ = _; simp [part1, h1, E0.out]), hown.alloc _, hB.alloc (by omega) _⟩, by simp [intOf]⟩
  · have e0 : out = lessParts a b c d := by have := hout.out; simpa [lessParts] using this
    have E0 := Lib.hid e0
    clear e0 hout
    by_cases h1 : imax a c < imin b d
    · have el : lessL a b c d = out := by rw [E0.out]; unfold lessL; rw [if_neg (by omega)]
      have EL := Lib.hid el
      have H1 := Lib.hid h1
      clear el h1
      go_wp2_with (go_at_call 143; refine (meet_yes a b c d _ H1.out).mono ?_; rintro e w1 ⟨rfl, hb1⟩)
      go_ret
      exact ⟨_, rfl, by rw [EL.out]; exact ownsRow_mono ((ownsRow_below hown hb1).alloc _) (by omega), (hBW.trans ((below_trans hB hB.size hb1).mono (by omega))).alloc (by have := hb1.size; omega) _⟩
    · have hno : imin b d <= imax a c := by omega
      by_cases h2 : a < b
      · have el : lessL a b c d = [(a, b)] := by unfold lessL; rw [if_pos ⟨by omega, h2⟩]
        have EL := Lib.hid el
        have H1 := Lib.hid hno
        clear el h1 hno
        go_wp2_with (go_at_call 143; refine (meet_no a b c d _ H1.out).mono ?_; rintro e w1 ⟨rfl, hb1⟩; have hq1 := hb1.size; have hq2 : w.heap.size < w1.heap.size := (by omega); have d1 := below_cell hb1 (by omega) c1; have d2 := below_cell hb1 (by omega) c2)
        go_ret
        refine ⟨_, rfl, by rw [EL.out]; exact ownsSpan1 (w1.alloc (.cells #[.int .i64 0, .int .i64 0] 68)) w.heap.size a b (w1.heap.size + 1) (by simp) (by simp; omega), ?_⟩
        exact ((hBW.trans ((below_trans hB hB.size hb1).mono (by omega))).alloc (by omega) _).alloc (by first | omega | (simp; omega)) _
      · have el : lessL a b c d = out := by rw [E0.out]; unfold lessL; rw [if_neg (by omega)]
        have EL := Lib.hid el
        have H1 := Lib.hid hno
        clear el h1 hno
        go_wp2_with (go_at_call 143; refine (meet_no a b c d _ H1.out).mono ?_; rintro e w1 ⟨rfl, hb1⟩; have hq1 := hb1.size; have hq2 : w.heap.size < w1.heap.size := (by omega); have d1 := below_cell hb1 (by omega) c1; have d2 := below_cell hb1 (by omega) c2)
        go_ret
        exact ⟨_, rfl, by rw [EL.out]; exact ownsRow_mono ((ownsRow_below hown hb1).alloc _) (by omega), (hBW.trans ((below_trans hB hB.size hb1).mono (by omega))).alloc (by have := hb1.size; omega) _⟩
end Go.Proofs.YtflhpmgjehjjkaaGreatDoor
