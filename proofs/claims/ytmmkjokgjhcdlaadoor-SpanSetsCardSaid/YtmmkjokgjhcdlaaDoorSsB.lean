/- SpanSets: where the first slice has a span that may not be, or makes too many. -/
import Derived.Test.YtmmkjokgjhcdlaaDoorSsA
namespace Go.Proofs.YtmmkjokgjhcdlaaDoor
open Go.RowKit Go.Shelf Go.Sort

set_option maxRecDepth 100000 in
set_option maxHeartbeats 1000000 in
theorem spanSets_long (nx ny : Nat) (ax ay : Option Addr) (cx cy : Nat) (t : Int) (w : World) (h1 : nx ≤ maxLen) (h2 : ny ≤ maxLen) (h : 90 < nx ∨ 90 < ny) :
    Calls Tryd.prog 3 #[.slice ax nx cx, .slice ay ny cy, .int .i64 t] w fun e w' => e = .returned (.bool true) ∧ Below w.heap.size w w' := by
  unfold maxLen at h1 h2
  by_cases hx : 90 < nx
  · clear h
    go_enter Tryd.func3, Tryd.ntmps3
    go_wp2
    go_ret
    exact ⟨rfl, Below.refl _ _⟩
  · have hy : 90 < ny := by omega
    clear h
    go_enter Tryd.func3, Tryd.ntmps3
    go_wp2
    go_ret
    exact ⟨rfl, Below.refl _ _⟩

theorem set2 {w : World} {b : Nat} {u v x y : Value} (h0 : w.cell? ⟨b, 0, none⟩ = some u) (h1 : w.cell? ⟨b, 1, none⟩ = some v) :
    ((w.setCell ⟨b, 0, none⟩ x).setCell ⟨b, 1, none⟩ y).cell? ⟨b, 0, none⟩ = some x ∧ ((w.setCell ⟨b, 0, none⟩ x).setCell ⟨b, 1, none⟩ y).cell? ⟨b, 1, none⟩ = some y :=
  ⟨(World.cell?_setCell_other _ _ _ _ (by simp)).trans (World.cell?_setCell_same _ _ _ h0), World.cell?_setCell_same _ _ _ ((World.cell?_setCell_other _ _ _ _ (by simp)).trans h1)⟩

set_option maxRecDepth 100000 in
set_option maxHeartbeats 2000000 in
theorem spanSets_bad (x y : List (Int × Int)) (j : Nat) (ax ay : Option Addr) (cx cy : Nat) (t : Int) (w : World) (hg : ErrVar w) (hx : spansAt w ax x) (hj : firstBad x j) (hlx : x.length ≤ 90) (hly : y.length ≤ 90) :
    Calls Tryd.prog 3 #[.slice ax x.length cx, .slice ay y.length cy, .int .i64 t] w fun e w' => e = .returned (.bool true) ∧ Below w.heap.size w w' := by
  have hjl : j < x.length := by
    obtain ⟨⟨x, y, h1, _⟩, _⟩ := hj
    exact (List.getElem?_eq_some_iff.1 h1).1
  have HJ := Lib.hid hj
  clear hj
  go_enter Tryd.func3, Tryd.ntmps3
  go_wp2_with (go_at_call 4; refine (bareF_any 0 _).mono ?_; rintro e w1 ⟨rfl, b1⟩)
  obtain ⟨W, hW⟩ : ∃ W, W = w1.alloc (.cells #[.int .i64 0, .int .i64 (-1)] 25) := ⟨_, rfl⟩
  rw [← hW]
  have hB1 : Below w.heap.size w W := by rw [hW]; exact b1.alloc b1.size _
  have hbb : w1.heap.size < W.heap.size := by rw [hW]; simp
  have hws : w.heap.size ≤ w1.heap.size := b1.size
  have c0 : W.cell? ⟨w1.heap.size, 0, none⟩ = some (.int .i64 0) := by rw [hW]; simp
  have c1 : W.cell? ⟨w1.heap.size, 1, none⟩ = some (.int .i64 (-1)) := by rw [hW]; simp
  have f0 : W.frozen? ⟨w1.heap.size, 0, none⟩ = false := by rw [hW]; simp
  have f1 : W.frozen? ⟨w1.heap.size, 1, none⟩ = false := by rw [hW]; simp
  have hws' : w.heap.size ≤ w1.heap.size := hws
  generalize w1.heap.size = bb at *
  clear hW b1
  have hx1 := hx.below hB1
  have hg1 := hg.below hB1
  have HB1 := Lib.hid hB1
  have HX := Lib.hid hx
  have HG := Lib.hid hg
  clear hx hg hB1 hws
  go_loopw [8] (fun i wr => ∃ k : Nat, i = .int .i64 k ∧ ((k ≤ j ∧ Below W.heap.size W wr) ∨ (k = j + 1 ∧ Below bb W wr ∧ wr.cell? ⟨bb, 0, none⟩ = some (.int .i64 1) ∧ wr.cell? ⟨bb, 1, none⟩ = some (.int .i64 j) ∧ bb < wr.heap.size))) (fun i _ => x.length - (intOf i).toNat)
  case atStart => exact ⟨0, rfl, Or.inl ⟨by omega, Below.refl _ _⟩⟩
  case round =>
    obtain ⟨k, rfl, ⟨hk, hB⟩ | ⟨hk, hB, c2, c3, hbr⟩⟩ := hrel
    · have d0 := below_cell hB hbb c0
      have d1 := below_cell hB hbb c1
      have e0 := below_frozen hB hbb f0
      have e1 := below_frozen hB hbb f1
      have hbw : bb < wr.heap.size := Nat.lt_of_lt_of_le hbb hB.size
      obtain ⟨b, o, p, q, g1, rfl, k1, k2⟩ := spansAt_get (hx1.below hB) (k := k) (by omega)
      have hb := World.block_lt_of_cell? wr _ k1
      have hR := fun W => rright_any p q W
      have hlt : k < x.length := by omega
      by_cases hkj : k < j
      · have hxy : rightB p q = true := HJ.out.2 k p q hkj g1.out
        rw [hxy] at hR
        clear hxy
        go_wp2_with (go_at_call 5; refine (hR _).mono ?_; rintro e w2 ⟨rfl, hb2⟩)
        exact ⟨⟨k + 1, by go_num, Or.inl ⟨by omega, below_step hB hb2⟩⟩, by simp [intOf]; omega⟩
      · have hkj : k = j := by omega
        subst hkj
        have hxy : rightB p q = false := by
          obtain ⟨⟨x', y', h1, h2⟩, _⟩ := HJ.out
          have := g1.out
          rw [h1] at this
          simp at this
          obtain ⟨rfl, rfl⟩ := this
          exact h2
        rw [hxy] at hR
        clear hxy
        go_wp2_with (go_at_call 5; refine (hR _).mono ?_; rintro e w2 ⟨rfl, hb2⟩; have e0 := below_frozen hb2 hbw e0; have e1 := below_frozen hb2 hbw e1; have d0 := below_cell hb2 hbw d0; have d1 := below_cell hb2 hbw d1; have hbw2 : bb < w2.heap.size := Nat.lt_of_lt_of_le hbw hb2.size)
        have q2 : Below bb W w2 := (hB.mono (Nat.le_of_lt hbb)).trans (hb2.mono (Nat.le_of_lt hbw))
        exact ⟨⟨k + 1, by go_num, Or.inr ⟨rfl, (q2.setCell (p := ⟨bb, 0, none⟩) (Nat.le_refl _) _).setCell (p := ⟨bb, 1, none⟩) (Nat.le_refl _) _, (set2 d0 d1).1, (set2 d0 d1).2, by simp; exact hbw2⟩⟩, by simp [intOf]; omega⟩
    · subst hk
      have hB2 : Below w.heap.size w wr := HB1.out.trans (hB.mono hws')
      have hx2 := HX.out.below hB2
      have hg2 := HG.out.below hB2
      have hR := rof_any x ax cx
      have hO := of_bad x j ax cx
      clear hx1 hg1 hB hws' c0 c1 f0 f1 HX HG HB1
      by_cases hlt : j + 1 < x.length
      all_goals
        go_wp2_with fail
        refine (hR _ hx2 (by omega)).mono ?_
        rintro e w3 ⟨v3, rfl, ho3, hb3⟩
        obtain ⟨ap, cp, rfl, s3⟩ := ownsRow_spans ho3
        obtain ⟨W3, hW3⟩ : ∃ W, W = w3.alloc (.cells #[.slice ap (refOf x).length cp] 22) := ⟨_, rfl⟩
        have q3 : Below wr.heap.size wr W3 := by rw [hW3]; exact hb3.alloc hb3.size _
        have hbw3 : bb < w3.heap.size := Nat.lt_of_lt_of_le hbr hb3.size
        have d2 := below_cell hb3 hbr c2
        have d3 := below_cell hb3 hbr c3
        have m2 := below_cell q3 hbr c2
        have m3 := below_cell q3 hbr c3
        have hbW : bb < W3.heap.size := Nat.lt_of_lt_of_le hbr q3.size
        have hx3 := hx2.below q3
        have hg3 := hg2.below q3
        have HB3 := Lib.hid (hB2.trans (q3.mono hB2.size))
        clear ho3 s3 hb3 q3 hx2 hg2 hB2 c2 c3
        go_wp2_with fail
        rw [← hW3]
        clear hW3
        refine (hO _ hx3 HJ.out (by omega)).mono ?_
        rintro e w4 ⟨v4, rfl, he4, hb4⟩
        have n2 := below_cell hb4 hbW m2
        have n3 := below_cell hb4 hbW m3
        have hg4 := hg3.below hb4
        have HB4 := Lib.hid (HB3.out.trans (hb4.mono HB3.out.size))
        have hI := is_any v4 1 j 1 j w4 hg4 he4
        rw [show ((1 : Int) == 1 && ((j : Int) == (j : Int))) = true by simp] at hI
        clear hg4 he4 hb4 m2 m3 d2 d3
        go_wp2_with (go_at_call 8; refine hI.mono ?_; rintro e w5 ⟨rfl, hb5⟩)
        go_ret
        exact ⟨rfl, HB4.out.trans (hb5.mono HB4.out.size)⟩
set_option maxRecDepth 100000 in
set_option maxHeartbeats 2000000 in
theorem spanSets_many (x y : List (Int × Int)) (ax ay : Option Addr) (cx cy : Nat) (t : Int) (w : World) (hg : ErrVar w) (hx : spansAt w ax x) (hr : rightL x) (hlx : x.length ≤ 90) (hly : y.length ≤ 90) (hp60 : 60 < (canon x).length) :
    Calls Tryd.prog 3 #[.slice ax x.length cx, .slice ay y.length cy, .int .i64 t] w fun e w' => e = .returned (.bool true) ∧ Below w.heap.size w w' := by
  obtain ⟨P, hP⟩ : ∃ P, P = canon x := ⟨_, rfl⟩
  have eP : refOf x = P := by rw [hP]; exact refOf_eq x hr
  rw [← hP] at hp60
  have hpl : P.length ≤ x.length * 2 := by rw [← eP]; exact refOf_len x
  have EP := Lib.hid eP
  have HP := Lib.hid hP
  have HR := Lib.hid hr
  clear eP hP hr
  go_enter Tryd.func3, Tryd.ntmps3
  go_wp2_with (go_at_call 4; refine (bareF_any 0 _).mono ?_; rintro e w1 ⟨rfl, b1⟩)
  obtain ⟨W, hW⟩ : ∃ W, W = w1.alloc (.cells #[.int .i64 0, .int .i64 (-1)] 25) := ⟨_, rfl⟩
  rw [← hW]
  have hB1 : Below w.heap.size w W := by rw [hW]; exact b1.alloc b1.size _
  have hbb : w1.heap.size < W.heap.size := by rw [hW]; simp
  have hws : w.heap.size ≤ w1.heap.size := b1.size
  have c0 : W.cell? ⟨w1.heap.size, 0, none⟩ = some (.int .i64 0) := by rw [hW]; simp
  have c1 : W.cell? ⟨w1.heap.size, 1, none⟩ = some (.int .i64 (-1)) := by rw [hW]; simp
  have f0 : W.frozen? ⟨w1.heap.size, 0, none⟩ = false := by rw [hW]; simp
  have f1 : W.frozen? ⟨w1.heap.size, 1, none⟩ = false := by rw [hW]; simp
  have hws' : w.heap.size ≤ w1.heap.size := hws
  generalize w1.heap.size = bb at *
  clear hW b1
  have HX := Lib.hid hx
  have HG := Lib.hid hg
  have hx1 := hx.below hB1
  have hg1 := hg.below hB1
  have HB1 := Lib.hid hB1
  clear hx hg hB1 hws
  go_loopw [8] (fun i wr => ∃ k : Nat, i = .int .i64 k ∧ k ≤ x.length ∧ Below W.heap.size W wr) (fun i _ => x.length - (intOf i).toNat)
  case atStart => exact ⟨0, rfl, by omega, Below.refl _ _⟩
  case round =>
    obtain ⟨k, rfl, hk, hB⟩ := hrel
    have d0 := below_cell hB hbb c0
    have hbw : bb < wr.heap.size := Nat.lt_of_lt_of_le hbb hB.size
    by_cases hlt : k < x.length
    · obtain ⟨b, o, p, q, g1, rfl, k1, k2⟩ := spansAt_get (hx1.below hB) (k := k) hlt
      have hb := World.block_lt_of_cell? wr _ k1
      have hR := fun W => rright_any p q W
      have hxy : rightB p q = true := HR.out (p, q) (List.mem_of_getElem? g1.out)
      rw [hxy] at hR
      clear hxy
      go_wp2_with (go_at_call 5; refine (hR _).mono ?_; rintro e w2 ⟨rfl, hb2⟩)
      exact ⟨⟨k + 1, by go_num, by omega, below_step hB hb2⟩, by simp [intOf]; omega⟩
    · have hx2 := hx1.below hB
      have hg2 := hg1.below hB
      have d1 := below_cell hB hbb c1
      have e0 := below_frozen hB hbb f0
      have e1 := below_frozen hB hbb f1
      have hB2 := HB1.out.trans (hB.mono HB1.out.size)
      have HB2 := Lib.hid hB2
      clear HB1 hB hx1 hg1 c0 c1 f0 f1 hbb hB2
      obtain ⟨wa, rfl⟩ : ∃ wa, wa = wr := ⟨_, rfl⟩
      go_wp2_with fail
      refine (rof_any x ax cx wa hx2 (by omega)).mono ?_
      rintro e w2 ⟨v2, rfl, ho2, hb2⟩
      rw [EP.out] at ho2
      obtain ⟨ap, cp, rfl, s2⟩ := ownsRow_spans ho2
      have d0 := below_cell hb2 hbw d0
      have d1 := below_cell hb2 hbw d1
      have e0 := below_frozen hb2 hbw e0
      have e1 := below_frozen hb2 hbw e1
      have hbw : bb < w2.heap.size := Nat.lt_of_lt_of_le hbw hb2.size
      obtain ⟨W2, hW2⟩ : ∃ W, W = w2.alloc (.cells #[.slice ap P.length cp] 22) := ⟨_, rfl⟩
      have q2 : Below w2.heap.size w2 W2 := by rw [hW2]; exact (Below.refl _ _).alloc (Nat.le_refl _) _
      have d2 := below_cell q2 hbw d0
      have d3 := below_cell q2 hbw d1
      have e2 := below_frozen q2 hbw e0
      have e3 := below_frozen q2 hbw e1
      have hbw2 : bb < W2.heap.size := Nat.lt_of_lt_of_le hbw q2.size
      have hx3 := (hx2.below hb2).below q2
      have hg3 := (hg2.below hb2).below q2
      have HB3 := Lib.hid (HB2.out.trans ((below_step hb2 q2).mono HB2.out.size))
      clear hx2 hg2 HB2 ho2 hb2 s2
      have HW2 := Lib.hid hW2
      have Q2 := Lib.hid q2
      clear hW2 q2
      go_wp2_with fail
      rw [← HW2.out]
      refine (bareF_any 4 W2).mono ?_
      rintro e w3 ⟨rfl, hb3⟩
      have m2 := below_cell hb3 hbw2 d2
      have m3 := below_cell hb3 hbw2 d3
      have n2 := below_frozen hb3 hbw2 e2
      have n3 := below_frozen hb3 hbw2 e3
      have hbw3 : bb < w3.heap.size := Nat.lt_of_lt_of_le hbw2 hb3.size
      obtain ⟨W3, hW3⟩ : ∃ W, W = (w3.setCell ⟨bb, 0, none⟩ (.int .i64 4)).setCell ⟨bb, 1, none⟩ (.int .i64 (-1)) := ⟨_, rfl⟩
      have HB4 : Below w.heap.size w W3 := by
        rw [hW3]
        exact ((HB3.out.trans (hb3.mono HB3.out.size)).setCell (p := ⟨bb, 0, none⟩) hws' _).setCell (p := ⟨bb, 1, none⟩) hws' _
      have k0 : W3.cell? ⟨bb, 0, none⟩ = some (.int .i64 4) := by rw [hW3]; exact (set2 m2 m3).1
      have k1 : W3.cell? ⟨bb, 1, none⟩ = some (.int .i64 (-1)) := by rw [hW3]; exact (set2 m2 m3).2
      have hbW : bb < W3.heap.size := by rw [hW3]; simpa using hbw3
      have hx4 : spansAt W3 ax x := HX.out.below HB4
      have hg4 : ErrVar W3 := HG.out.below HB4
      have H4 := Lib.hid HB4
      have HW3 := Lib.hid hW3
      clear HB4 hW3 hx3 hg3 HB3 Q2 hb3
      go_wp2_with fail
      rw [← HW3.out]
      clear HW3 m2 m3 n2 n3 d2 d3 e2 e3 HW2
      refine (of_res x ax cx W3 hx4 HR.out (by omega)).mono ?_
      rintro e w4 ⟨xx, yy, rfl, hb4, hout⟩
      obtain ⟨rfl, rfl⟩ := setOut_out hout (by rw [← HP.out]; exact hp60)
      have r0 := below_cell hb4 hbW k0
      have r1 := below_cell hb4 hbW k1
      have hI := is_any (.iface 23 (.int .i64 4)) 4 (-1) 4 (-1) w4 (hg4.below hb4) (Or.inr (Or.inl ⟨rfl, rfl⟩))
      rw [show ((4 : Int) == 4 && ((-1 : Int) == -1)) = true from rfl] at hI
      have H5 := Lib.hid (H4.out.trans (hb4.mono H4.out.size))
      clear hout hb4 k0 k1 hx4 hg4 H4
      go_wp2_with (go_at_call 8; refine hI.mono ?_; rintro e w5 ⟨rfl, hb5⟩)
      go_ret
      exact ⟨rfl, H5.out.trans (hb5.mono H5.out.size)⟩
end Go.Proofs.YtmmkjokgjhcdlaaDoor
