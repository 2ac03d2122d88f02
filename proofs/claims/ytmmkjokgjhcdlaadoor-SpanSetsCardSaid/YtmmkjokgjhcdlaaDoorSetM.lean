/- span.Set's Minus. -/
import Derived.Test.YtmmkjokgjhcdlaaDoorSetE
import Derived.Test.YtmmkjokgjhcdlaaDoorSetN
namespace Go.Proofs.YtmmkjokgjhcdlaaDoor
open Go.RowKit Go.Shelf Go.Sort

set_option maxRecDepth 100000 in
set_option maxHeartbeats 400000 in
theorem minus_any (ba bb : Nat) (l m : List (Int × Int)) (w : World) (ha : setAt w ba l) (hb : setAt w bb m) (hl : rightL l) (hm : rightL m) (hn : Norm l) :
    Calls Tryd.prog 18 #[.pointer (some ⟨ba, 0, none⟩), .pointer (some ⟨bb, 0, none⟩)] w fun e w' => setRes w (minusL l m) e w' := by
  have hlt1 := ha.lt
  have hlt2 := hb.lt
  obtain ⟨a1, c1, k1, s1, n1, l1⟩ := ha
  obtain ⟨a2, c2, k2, s2, n2, l2⟩ := hb
  have hr := minusL_right m l hl
  have hlens : ∀ k, (minusL l (m.take k)).length ≤ 120 := fun k => by
    have := (minusL_spec (m.take k) l hn (fun b hb => right_pos hm b (List.mem_of_mem_take hb))).2.1
    rw [List.length_take] at this
    omega
  have HR := Lib.hid hr
  have HL := Lib.hid hlens
  clear n2 hr hl hm hn hlens
  go_enter Tryd.func18, Tryd.ntmps18
  go_wp2_with (go_at_call 25; refine (clone_any a1 l c1 _ s1 (by omega)).mono ?_; rintro e w1 ⟨v1, rfl, ho1, hb1⟩; have e2 := below_cell hb1 hlt2 k2)
  go_loopw [6, 22] (fun v i wr => ∃ k left, k ≤ m.length ∧ i = .int .i64 k ∧ Hid (left = minusL l (m.take k)) ∧ wr.ownsRow w.heap.size 29 2 v left.length (flat left) ∧ Below w.heap.size w wr) (fun _ i _ => m.length - (intOf i).toNat)
  case atStart => exact ⟨0, l, by omega, rfl, rfl, ho1, hb1⟩
  case round =>
    clear ho1 hb1
    obtain ⟨k, left, hk, rfl, hleft, hown, hB⟩ := hrel
    have hsz := hB.size
    have hll : left.length ≤ 120 := by rw [hleft.out]; exact HL.out k
    obtain ⟨al, cl, rfl, hsl⟩ := ownsRow_spans hown
    by_cases hlt : k < m.length
    · obtain ⟨b, o, x1, y1, g1, rfl, d1, d2⟩ := spansAt_get s2 hlt
      have hb := World.block_lt_of_cell? w _ d1
      have d1 := below_cell hB hb d1
      have d2 := below_cell hB hb d2
      have hsn : minusL l (m.take (k + 1)) = lessAll left (x1, y1) := by rw [hleft.out]; exact minusL_snoc l m k (x1, y1) g1.out
      have HS := Lib.hid hsn
      clear hsn
      obtain ⟨wo, rfl⟩ : ∃ wo : World, wo = wr := ⟨_, rfl⟩
      go_wp2
      have hbox := Below.refl (wo.heap.size + 1) (wo.alloc (.cells #[.int .i64 x1, .int .i64 y1] 29))
      go_loopw [9, 28] (fun v i wr => ∃ j out1, j ≤ left.length ∧ i = .int .i64 j ∧ Hid (out1 = lessAll (left.take j) (x1, y1)) ∧ wr.ownsRow (wo.heap.size + 1) 29 2 v out1.length (flat out1) ∧ Below (wo.heap.size + 1) (wo.alloc (.cells #[.int .i64 x1, .int .i64 y1] 29)) wr) (fun _ i _ => left.length - (intOf i).toNat)
      case atStart => exact ⟨0, [], by omega, rfl, rfl, World.ownsRow_nil _ _ _ _, hbox⟩
      case round =>
        obtain ⟨j, out1, hj, rfl, hout1, hown1, hB1⟩ := hrel
        have hsz1 : wo.heap.size + 1 ≤ wr.heap.size := by have := hB1.size; simpa using this
        have hlo : wo.heap.size < wr.heap.size := hsz1
        have f1 := below_cell hB1 (Nat.lt_succ_self _) (cell2a (X := wo) (x := .int .i64 x1) (y := .int .i64 y1) (t := 29) rfl)
        have f2 := below_cell hB1 (Nat.lt_succ_self _) (cell2b (X := wo) (x := .int .i64 x1) (y := .int .i64 y1) (t := 29) rfl)
        have hBo : Below wo.heap.size wo wr := ((Below.refl _ _).alloc (Nat.le_refl _) _).trans (hB1.mono (Nat.le_succ _))
        by_cases hlt1' : j < left.length
        · obtain ⟨b2, o2, x2, y2, g2, rfl, d3, d4⟩ := spansAt_get hsl hlt1'
          have hb2 : b2 < wo.heap.size := World.block_lt_of_cell? wo _ d3
          have hb2' : b2 < wr.heap.size := by omega
          have d3 := below_cell hBo hb2 d3
          have d4 := below_cell hBo hb2 d4
          have hsn : lessAll (left.take (j + 1)) (x1, y1) = out1 ++ lessL x2 y2 x1 y1 := by rw [hout1.out]; exact flatMap_snoc _ left j (x2, y2) g2.out
          have hole1 : out1.length ≤ 240 := by
            have := flatMap_le (fun a : Int × Int => lessL a.1 a.2 (x1, y1).1 (x1, y1).2) 2 (fun a => lessL_le _ _ _ _) (left.take j)
            rw [List.length_take] at this
            rw [hout1.out]; unfold lessAll; omega
          have HS1 := Lib.hid hsn
          have hle := lessL_le x2 y2 x1 y1
          clear hsn
          obtain ⟨u, hu⟩ : ∃ u, u = lessL x2 y2 x1 y1 := ⟨_, rfl⟩
          rw [← hu] at hle HS1
          have HU := Lib.hid hu
          clear hu
          go_wp2_with (first
            | (go_at_call 36; ((with_reducible refine (less_any x2 y2 x1 y1 _).mono ?_); rintro e w1 ⟨v1, rfl, ho1, hb1⟩; rw [← HU.out] at ho1; obtain ⟨au, cu, rfl, hsu, hnu⟩ := ownsRow_spansN ho1; have hbo := below_over hb1; have hsz2 := hbo.size))
            | (at_builtin; refine appAll rfl _ _ rfl (wo.heap.size + 1) _ out1 rfl (ownsRow_below hown1 hbo) au u cu rfl hsu hnu (by omega) (by omega) (wo.alloc (.cells #[.int .i64 x1, .int .i64 y1] 29)) (below_trans hB1 hsz1 hbo) ?_; intro v' w2 h1 h2 h3))
          exact ⟨⟨j + 1, out1 ++ u, by omega, by go_num, (by show _ = _; rw [HS1.out]), h1, h2⟩, by simp [intOf]; omega⟩
        · have he : out1 = lessAll left (x1, y1) := by rw [hout1.out, List.take_of_length_le (by omega)]
          rw [← HS.out] at he
          have HE := Lib.hid he
          clear he
          go_wp2
          exact ⟨⟨k + 1, out1, by omega, by go_num, HE, ownsRow_mono hown1 (by omega), hB.trans (hBo.mono hsz)⟩, by simp [intOf]; omega⟩
    · have he : left = minusL l m := by rw [hleft.out, List.take_of_length_le (by omega)]
      have HRO : Hid (rightL left) := by rw [he]; exact HR
      have HE := Lib.hid he
      clear he
      go_wp2_with (go_at_call 7; ((with_reducible refine (of_res left al cl _ hsl HRO.out (by omega)).mono ?_); rintro e w2 ⟨rx, ry, rfl, hb2, hres⟩))
      go_ret2
      have ho := hres.later hB
      rw [HE.out] at ho
      exact ⟨_, _, rfl, below_step hB hb2, ho⟩
end Go.Proofs.YtmmkjokgjhcdlaaDoor
