/- SpanParts: its two function literals, the plain law, and its walk: whatever the spans and the time, the answer is true. -/
import Derived.Test.YtcdgochkcfogiaaSpanD
import Derived.Test.YtcdgochkcfogiaaSpanE
import Derived.Deep.RegionHeld3
namespace Go.Proofs.Ytcdgochkcfogiaa
open Go.RowKit Go.Shelf Go.Sort

def bothP (a b c d x : Int) : Bool := hasB a b x && hasB c d x
def lessP (a b c d x : Int) : Bool := hasB a b x && !hasB c d x

theorem sp1_any (a b c d : Int) (ba bb : Nat) (w : World) (c1 : w.cell? ⟨ba, 0, none⟩ = some (.int .i64 a)) (c2 : w.cell? ⟨ba, 1, none⟩ = some (.int .i64 b)) (c3 : w.cell? ⟨bb, 0, none⟩ = some (.int .i64 c)) (c4 : w.cell? ⟨bb, 1, none⟩ = some (.int .i64 d)) :
    PredB Try.prog 12 #[.pointer (some ⟨ba, 0, none⟩), .pointer (some ⟨bb, 0, none⟩)] (bothP a b c d) w := by
  intro W x hW
  have k1 := below_cell hW (World.block_lt_of_cell? w _ c1) c1
  have k2 := below_cell hW (World.block_lt_of_cell? w _ c1) c2
  have k3 := below_cell hW (World.block_lt_of_cell? w _ c3) c3
  have k4 := below_cell hW (World.block_lt_of_cell? w _ c3) c4
  have hb2 := World.block_lt_of_cell? W _ k3
  clear c1 c2 c3 c4 hW
  cases h1 : hasB a b x
  · have e : bothP a b c d x = false := by simp [bothP, h1]
    have E := Lib.hid e
    clear e
    show Calls Try.prog 12 #[.int .i64 x, .pointer (some ⟨ba, 0, none⟩), .pointer (some ⟨bb, 0, none⟩)] W _
    go_enter Try.func12, Try.ntmps12
    go_wp2_with (go_at_call 9; refine (rhas_any a b x _).mono ?_; rintro e w1 ⟨rfl, hb1⟩)
    go_ret
    exact ⟨ret_bool E.out.symm, hb1⟩
  · have e : bothP a b c d x = (hasB c d x) := by simp [bothP, h1]
    have E := Lib.hid e
    clear e
    show Calls Try.prog 12 #[.int .i64 x, .pointer (some ⟨ba, 0, none⟩), .pointer (some ⟨bb, 0, none⟩)] W _
    go_enter Try.func12, Try.ntmps12
    go_wp2_with (go_at_call 9; first | ((with_reducible refine (rhas_any a b x _).mono ?_); rintro e w1 ⟨rfl, hb1⟩; have q3 := below_cell hb1 hb2 k3; have q4 := below_cell hb1 hb2 k4) | (refine (rhas_any c d x _).mono ?_; rintro e w2 ⟨rfl, hb3⟩))
    go_ret
    exact ⟨ret_bool E.out.symm, below_trans hb1 hb1.size hb3⟩

theorem sp2_any (a b c d : Int) (ba bb : Nat) (w : World) (c1 : w.cell? ⟨ba, 0, none⟩ = some (.int .i64 a)) (c2 : w.cell? ⟨ba, 1, none⟩ = some (.int .i64 b)) (c3 : w.cell? ⟨bb, 0, none⟩ = some (.int .i64 c)) (c4 : w.cell? ⟨bb, 1, none⟩ = some (.int .i64 d)) :
    PredB Try.prog 14 #[.pointer (some ⟨ba, 0, none⟩), .pointer (some ⟨bb, 0, none⟩)] (lessP a b c d) w := by
  intro W x hW
  have k1 := below_cell hW (World.block_lt_of_cell? w _ c1) c1
  have k2 := below_cell hW (World.block_lt_of_cell? w _ c1) c2
  have k3 := below_cell hW (World.block_lt_of_cell? w _ c3) c3
  have k4 := below_cell hW (World.block_lt_of_cell? w _ c3) c4
  have hb2 := World.block_lt_of_cell? W _ k3
  clear c1 c2 c3 c4 hW
  cases h1 : hasB a b x
  · have e : lessP a b c d x = false := by simp [lessP, h1]
    have E := Lib.hid e
    clear e
    show Calls Try.prog 14 #[.int .i64 x, .pointer (some ⟨ba, 0, none⟩), .pointer (some ⟨bb, 0, none⟩)] W _
    go_enter Try.func14, Try.ntmps14
    go_wp2_with (go_at_call 9; refine (rhas_any a b x _).mono ?_; rintro e w1 ⟨rfl, hb1⟩)
    go_ret
    exact ⟨ret_bool E.out.symm, hb1⟩
  · have e : lessP a b c d x = (!hasB c d x) := by simp [lessP, h1]
    have E := Lib.hid e
    clear e
    show Calls Try.prog 14 #[.int .i64 x, .pointer (some ⟨ba, 0, none⟩), .pointer (some ⟨bb, 0, none⟩)] W _
    go_enter Try.func14, Try.ntmps14
    go_wp2_with (go_at_call 9; first | ((with_reducible refine (rhas_any a b x _).mono ?_); rintro e w1 ⟨rfl, hb1⟩; have q3 := below_cell hb1 hb2 k3; have q4 := below_cell hb1 hb2 k4) | (refine (rhas_any c d x _).mono ?_; rintro e w2 ⟨rfl, hb3⟩))
    go_ret
    exact ⟨ret_bool E.out.symm, below_trans hb1 hb1.size hb3⟩

/-! ### The plain law -/
theorem norm_part1 (f t : Int) : Norm (part1 f t) := by
  unfold part1; split
  · exact ⟨by assumption, by simp, trivial⟩
  · trivial
theorem inL_part1 (f t x : Int) : inL (part1 f t) x = hasB f t x := by
  unfold part1; split
  · simp
  · symm; rw [inL_nil, Bool.eq_false_iff]; intro h; have := (hasB_iff ..).1 h; omega
theorem ruled_same (f t : Int) (es : List Int) (hf : f ∈ es) (ht : t ∈ es) : ∀ x x', x ≤ x' → (∀ e ∈ es, ¬ (x < e ∧ e ≤ x')) → hasB f t x = hasB f t x' := (ruled_has f t es hf ht).same
theorem both_eq (a b c d : Int) : whereL (bothP a b c d) (sortI (endsLL [[(a, b), (c, d)]])) = part1 (imax a c) (imin b d) := by
  have hR : Ruled (bothP a b c d) [a, b, c, d] := (ruled_has a b _ (by simp) (by simp)).and (ruled_same c d _ (by simp) (by simp))
  obtain ⟨h1, h2⟩ := whereL_spec (bothP a b c d) [a, b, c, d] (sortI (endsLL [[(a, b), (c, d)]])) hR (sortI_sorted _) (fun x => by rw [← mem_sortI]; simp [endsLL, endsL])
  refine norm_ext h1 (norm_part1 _ _) fun x => ?_
  rw [h2, inL_part1]
  unfold bothP hasB imax imin
  rw [← Bool.decide_and, decide_eq_decide]; omega
theorem less_eq (a b c d : Int) : whereL (lessP a b c d) (sortI (endsLL [[(a, b), (c, d)]])) = lessL a b c d := by
  have hR : Ruled (lessP a b c d) [a, b, c, d] := (ruled_has a b _ (by simp) (by simp)).and (fun t t' ht h => by rw [ruled_same c d [a, b, c, d] (by simp) (by simp) t t' ht h])
  obtain ⟨h1, h2⟩ := whereL_spec (lessP a b c d) [a, b, c, d] (sortI (endsLL [[(a, b), (c, d)]])) hR (sortI_sorted _) (fun x => by rw [← mem_sortI]; simp [endsLL, endsL])
  have hx : ∀ x, lessP a b c d x = decide ((a ≤ x ∧ x < b) ∧ ¬ (c ≤ x ∧ x < d)) := fun x => by
    unfold lessP hasB; rw [← decide_not, ← Bool.decide_and]
  unfold lessL
  split
  · rename_i h
    refine norm_ext h1 ⟨h.2, by simp, trivial⟩ fun x => ?_
    rw [h2, hx]
    have := h.1
    unfold imax imin at this
    simp only [inL_cons, inL_nil, Bool.or_false, hasB, decide_eq_decide]; omega
  · rename_i h
    unfold imax imin at h
    refine norm_ext h1 ?_ fun x => ?_
    · unfold lessParts part1 imax imin
      split <;> split <;> simp [Norm] <;> omega
    · rw [h2, hx]
      unfold lessParts
      rw [inL_append, inL_part1, inL_part1]
      unfold hasB imin imax
      rw [← Bool.decide_or, decide_eq_decide]; omega

theorem keepS {w W X Y : World} {a b : Int} (h : X.cell? ⟨w.heap.size, 0, none⟩ = some (.int .i64 a) ∧ X.cell? ⟨w.heap.size, 1, none⟩ = some (.int .i64 b) ∧ w.heap.size < X.heap.size ∧ Below W.heap.size W X) (hb : Below X.heap.size X Y) :
    Y.cell? ⟨w.heap.size, 0, none⟩ = some (.int .i64 a) ∧ Y.cell? ⟨w.heap.size, 1, none⟩ = some (.int .i64 b) ∧ w.heap.size < Y.heap.size ∧ Below W.heap.size W Y :=
  ⟨below_cell hb h.2.2.1 h.1, below_cell hb h.2.2.1 h.2.1, Nat.lt_of_lt_of_le h.2.2.1 hb.size, below_step h.2.2.2 hb⟩

theorem factsAt {w W Y : World} {a b c d : Int} (k1 : W.cell? ⟨w.heap.size, 0, none⟩ = some (.int .i64 a)) (k2 : W.cell? ⟨w.heap.size, 1, none⟩ = some (.int .i64 b)) (k3 : W.cell? ⟨w.heap.size + 1, 0, none⟩ = some (.int .i64 c)) (k4 : W.cell? ⟨w.heap.size + 1, 1, none⟩ = some (.int .i64 d))
    (hs : w.heap.size + 2 ≤ W.heap.size) (h : Below W.heap.size W Y) : Y.cell? ⟨w.heap.size, 0, none⟩ = some (.int .i64 a) ∧ Y.cell? ⟨w.heap.size, 1, none⟩ = some (.int .i64 b) ∧ Y.cell? ⟨w.heap.size + 1, 0, none⟩ = some (.int .i64 c) ∧ Y.cell? ⟨w.heap.size + 1, 1, none⟩ = some (.int .i64 d) ∧
      w.heap.size < Y.heap.size ∧ w.heap.size + 1 < Y.heap.size :=
  ⟨below_cell h (by omega) k1, below_cell h (by omega) k2, below_cell h (by omega) k3, below_cell h (by omega) k4, by have := h.size; omega, by have := h.size; omega⟩

set_option maxRecDepth 100000 in
set_option maxHeartbeats 800000 in
theorem spanParts_walk (a b c d t : Int) (w : World) :
    Calls Try.prog 3 #[.agg #[.int .i64 a, .int .i64 b], .agg #[.int .i64 c, .int .i64 d], .int .i64 t] w fun e w' => e = .returned (.bool true) ∧ Below w.heap.size w w' := by
  obtain ⟨W, hW⟩ : ∃ W, W = ((w.alloc (.cells #[.int .i64 a, .int .i64 b] 23)).alloc (.cells #[.int .i64 c, .int .i64 d] 23)) := ⟨_, rfl⟩
  obtain ⟨es, hes⟩ : ∃ es, es = sortI (endsLL [[(a, b), (c, d)]]) := ⟨_, rfl⟩
  have hel : es.length = 4 := by rw [hes, sortI_length]; rfl
  have HES := Lib.hid hes
  obtain ⟨ll, hll⟩ : ∃ ll, ll = lessL a b c d := ⟨_, rfl⟩
  have hlle : ll.length ≤ maxLen := by rw [hll]; have := lessL_le a b c d; unfold maxLen; omega
  have HLL := Lib.hid hll
  clear hll
  have hel1 : es.length * 16 ≤ 140737488355328 := by omega
  clear hes hel
  have hsW : w.heap.size + 2 ≤ W.heap.size := by rw [hW]; simp
  have hBW : Below w.heap.size w W := by rw [hW]; exact ((Below.refl _ _).alloc (Nat.le_refl _) _).alloc (by simp) _
  have k1 : W.cell? ⟨w.heap.size, 0, none⟩ = some (.int .i64 a) := by rw [hW]; simp
  have k2 : W.cell? ⟨w.heap.size, 1, none⟩ = some (.int .i64 b) := by rw [hW]; simp
  have k3 : W.cell? ⟨w.heap.size + 1, 0, none⟩ = some (.int .i64 c) := by rw [hW]; simp
  have k4 : W.cell? ⟨w.heap.size + 1, 1, none⟩ = some (.int .i64 d) := by rw [hW]; simp
  have HW := Lib.hid hW
  clear hW
  have hlt : w.heap.size < W.heap.size := by omega
  have hB0 : Below W.heap.size W W.drew := (Below.refl _ _).drew
  go_enter Try.func3, Try.ntmps3
  go_wp2
  rw [← HW.out]
  go_region_held3 (fun w' => w'.cell? ⟨w.heap.size, 0, none⟩ = some (.int .i64 a) ∧ w'.cell? ⟨w.heap.size, 1, none⟩ = some (.int .i64 b) ∧ w.heap.size < w'.heap.size ∧ Below W.heap.size W w')
    (first | exact ⟨k1, k2, hlt, hB0⟩ | exact keepS (by assumption) hb)
    (first
      | (go_at_call 6; refine (right_any a b _).mono ?_; rintro e w' ⟨rfl, hb⟩)
      | (go_at_call 7; refine (rright_any a b _).mono ?_; rintro e w' ⟨rfl, hb⟩)
      | (go_at_call 8; refine (has_any a b t _).mono ?_; rintro e w' ⟨rfl, hb⟩)
      | (go_at_call 9; refine (rhas_any a b t _).mono ?_; rintro e w' ⟨rfl, hb⟩))
  rename_i hS
  obtain ⟨_, _, _, hBX⟩ := hS
  obtain ⟨X, rfl⟩ : ∃ X, X = w' := ⟨_, rfl⟩
  clear hb
  obtain ⟨f1, f2, f3, f4, f5, f6⟩ := factsAt k1 k2 k3 k4 hsW hBX
  go_wp2_with fail
  refine (ends_any [[(a, b), (c, d)]] _ 1 _ (lists1 X a b c d) (by simp [maxLen]) (by simp [endsLL, endsL])).mono ?_
  rintro e w1 ⟨v1, rfl, ho1, hb1⟩
  obtain ⟨ao1, cap1, rfl, hi1⟩ := ownsRow_ints ho1
  rw [show sortI (endsLL [[(a, b), (c, d)]]) = es from HES.out.symm] at hi1 ⊢
  have hB1 := below_step hBX (below_over2 hb1)
  clear ho1 hb1 f1 f2 f3 f4 f5 f6 hBX
  obtain ⟨f1, f2, f3, f4, f5, f6⟩ := factsAt k1 k2 k3 k4 hsW hB1
  go_wp2_with fail
  refine (where_any 12 _ (bothP a b c d) es ao1 cap1 _ hi1 (enters_of Try.func12 (by kernel_rfl) rfl) (sp1_any a b c d _ _ _ f1 f2 f3 f4) hel1).mono ?_
  rintro e w2 ⟨v2, rfl, ho2, hb2⟩
  have hbo : whereL (bothP a b c d) es = part1 (imax a c) (imin b d) := by rw [HES.out]; exact both_eq a b c d
  rw [hbo] at ho2
  obtain ⟨ao2, cap2, rfl, hi2⟩ := ownsRow_spans ho2
  have hB2 := below_step hB1 hb2
  clear ho2 hb2 hB1 f1 f2 f3 f4 f5 f6 hbo hi1
  obtain ⟨f1, f2, f3, f4, f5, f6⟩ := factsAt k1 k2 k3 k4 hsW hB2
  by_cases hov : imax a c < imin b d
  · have hpt : part1 (imax a c) (imin b d) = [(imax a c, imin b d)] := by unfold part1; rw [if_pos hov]
    rw [hpt] at hi2 ⊢
    obtain ⟨g, o, rfl, e1, e2⟩ := hi2 0 _ _ rfl
    simp only [Nat.zero_mul, Nat.add_zero] at e1 e2
    have hgl := World.block_lt_of_cell? w2 _ e1
    have HOV := Lib.hid hov
    clear hpt hov
    go_wp2_with fail
    refine (meet_yes a b c d _ HOV.out).mono ?_
    rintro e w3 ⟨rfl, hb3⟩
    have e1 := below_cell hb3 hgl e1
    have e2 := below_cell hb3 hgl e2
    have hgl := World.block_lt_of_cell? w3 _ e1
    have hB3 := below_step hB2 hb3
    clear hb3 f1 f2 f3 f4 f5 f6 hB2
    obtain ⟨f1, f2, f3, f4, f5, f6⟩ := factsAt k1 k2 k3 k4 hsW hB3
    go_wp2_with fail
    go_quiet (fail)
    go_wp2_with fail
    refine (ends_any [[(a, b), (c, d)]] _ 1 _ (lists1' ((w3.alloc _).drewN nq) (w3.heap.size + 1) (by simp) a b c d) (by simp [maxLen]) (by simp [endsLL, endsL])).mono ?_
    rintro e w4 ⟨v4, rfl, ho4, hb4⟩
    obtain ⟨ao4, cap4, rfl, hi4⟩ := ownsRow_ints ho4
    rw [show sortI (endsLL [[(a, b), (c, d)]]) = es from HES.out.symm] at hi4 ⊢
    have hB4 := below_step (below_drewN (hB3.alloc hB3.size _) nq) (below_over2 hb4)
    clear ho4 hb4 f1 f2 f3 f4 f5 f6 hB3
    obtain ⟨f1, f2, f3, f4, f5, f6⟩ := factsAt k1 k2 k3 k4 hsW hB4
    go_wp2_with fail
    refine (where_any 14 _ (lessP a b c d) es ao4 cap4 _ hi4 (enters_of Try.func14 (by kernel_rfl) rfl) (sp2_any a b c d _ _ _ f1 f2 f3 f4) hel1).mono ?_
    rintro e w5 ⟨v5, rfl, ho5, hb5⟩
    rw [show whereL (lessP a b c d) es = ll by rw [HES.out, HLL.out]; exact less_eq a b c d] at ho5
    obtain ⟨ao5, cap5, rfl, hi5⟩ := ownsRow_spans ho5
    have hB5 := below_step hB4 hb5
    clear ho5 hb5 hB4 f1 f2 f3 f4 f5 f6 hi4
    obtain ⟨f1, f2, f3, f4, f5, f6⟩ := factsAt k1 k2 k3 k4 hsW hB5
    go_wp2_with fail
    refine (less_any a b c d _).mono ?_
    rintro e w6 ⟨v6, rfl, ho6, hb6⟩
    rw [← HLL.out] at ho6
    obtain ⟨ao6, cap6, rfl, hi6⟩ := ownsRow_spans ho6
    have hi5 := hi5.below hb6
    have hB6 := below_step hB5 hb6
    clear ho6 hb6 hB5 f1 f2 f3 f4 f5 f6
    go_wp2_with fail
    refine (sameSpans_any ao6 ao5 cap6 cap5 ll ll _ hi6 hi5 hlle hlle).mono ?_
    rintro e w7 ⟨rfl, n7, rfl⟩
    rw [show decide (ll = ll) = true from decide_eq_true rfl]
    go_wp2
    go_ret
    exact ⟨rfl, below_drewN (hBW.trans (hB6.mono (by omega))) n7⟩
  · have hpt : part1 (imax a c) (imin b d) = [] := by unfold part1; rw [if_neg hov]
    rw [hpt] at hi2 ⊢
    have hno : imin b d ≤ imax a c := by omega
    have HOV := Lib.hid hno
    clear hpt hov hno
    go_wp2_with fail
    refine (meet_no a b c d _ HOV.out).mono ?_
    rintro e w3 ⟨rfl, hb3⟩
    have hB3 := below_step hB2 hb3
    clear hb3 f1 f2 f3 f4 f5 f6 hB2
    obtain ⟨f1, f2, f3, f4, f5, f6⟩ := factsAt k1 k2 k3 k4 hsW hB3
    go_wp2_with fail
    go_quiet (fail)
    go_wp2_with fail
    refine (ends_any [[(a, b), (c, d)]] _ 1 _ (lists1' ((w3.alloc _).drewN nq) (w3.heap.size + 1) (by simp) a b c d) (by simp [maxLen]) (by simp [endsLL, endsL])).mono ?_
    rintro e w4 ⟨v4, rfl, ho4, hb4⟩
    obtain ⟨ao4, cap4, rfl, hi4⟩ := ownsRow_ints ho4
    rw [show sortI (endsLL [[(a, b), (c, d)]]) = es from HES.out.symm] at hi4 ⊢
    have hB4 := below_step (below_drewN (hB3.alloc hB3.size _) nq) (below_over2 hb4)
    clear ho4 hb4 f1 f2 f3 f4 f5 f6 hB3
    obtain ⟨f1, f2, f3, f4, f5, f6⟩ := factsAt k1 k2 k3 k4 hsW hB4
    go_wp2_with fail
    refine (where_any 14 _ (lessP a b c d) es ao4 cap4 _ hi4 (enters_of Try.func14 (by kernel_rfl) rfl) (sp2_any a b c d _ _ _ f1 f2 f3 f4) hel1).mono ?_
    rintro e w5 ⟨v5, rfl, ho5, hb5⟩
    rw [show whereL (lessP a b c d) es = ll by rw [HES.out, HLL.out]; exact less_eq a b c d] at ho5
    obtain ⟨ao5, cap5, rfl, hi5⟩ := ownsRow_spans ho5
    have hB5 := below_step hB4 hb5
    clear ho5 hb5 hB4 f1 f2 f3 f4 f5 f6 hi4
    obtain ⟨f1, f2, f3, f4, f5, f6⟩ := factsAt k1 k2 k3 k4 hsW hB5
    go_wp2_with fail
    refine (less_any a b c d _).mono ?_
    rintro e w6 ⟨v6, rfl, ho6, hb6⟩
    rw [← HLL.out] at ho6
    obtain ⟨ao6, cap6, rfl, hi6⟩ := ownsRow_spans ho6
    have hi5 := hi5.below hb6
    have hB6 := below_step hB5 hb6
    clear ho6 hb6 hB5 f1 f2 f3 f4 f5 f6
    go_wp2_with fail
    refine (sameSpans_any ao6 ao5 cap6 cap5 ll ll _ hi6 hi5 hlle hlle).mono ?_
    rintro e w7 ⟨rfl, n7, rfl⟩
    rw [show decide (ll = ll) = true from decide_eq_true rfl]
    go_wp2
    go_ret
    exact ⟨rfl, below_drewN (hBW.trans (hB6.mono (by omega))) n7⟩
end Go.Proofs.Ytcdgochkcfogiaa
