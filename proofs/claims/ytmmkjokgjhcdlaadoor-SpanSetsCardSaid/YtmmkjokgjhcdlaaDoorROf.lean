/- The reference's In and Of: whether any of some spans has a time; as few spans as there can be of the same times. -/
import Derived.Test.YtmmkjokgjhcdlaaDoorSpanD
import Derived.Deep.QuietTactic
import Derived.BigQuiet
namespace Go.Proofs.YtmmkjokgjhcdlaaDoor
open Go.RowKit Go.Shelf Go.Sort

theorem inL_take (l : List (Int × Int)) (k : Nat) (x y t : Int) (h : l[k]? = some (x, y)) : inL (l.take (k + 1)) t = (inL (l.take k) t || hasB x y t) := by
  rw [List.take_add_one, h, inL_append]; simp
theorem inL_has {l : List (Int × Int)} {k : Nat} {x y t : Int} (h : l[k]? = some (x, y)) (hx : hasB x y t = true) : inL l t = true := by
  unfold inL; rw [List.any_eq_true]; exact ⟨(x, y), List.mem_of_getElem? h, hx⟩

set_option maxRecDepth 100000 in
theorem rin_any (l : List (Int × Int)) (t : Int) (ao : Option Addr) (cap : Nat) (w : World) (hl : spansAt w ao l) (hlen : l.length ≤ maxLen) :
    Calls Tryd.prog 12 #[.slice ao l.length cap, .int .i64 t] w fun e w' => e = .returned (.bool (inL l t)) ∧ Below w.heap.size w w' := by
  unfold maxLen at hlen
  go_enter Tryd.func12, Tryd.ntmps12
  go_wp2
  go_loopw [9] (fun i wr => ∃ k : Nat, k ≤ l.length ∧ i = .int .i64 k ∧ inL (l.take k) t = false ∧ Below w.heap.size w wr) (fun i _ => l.length - (intOf i).toNat)
  case atStart => exact ⟨0, by omega, rfl, rfl, Below.refl _ _⟩
  case round =>
    obtain ⟨k, hk, rfl, hno, hB⟩ := hrel
    by_cases hlt : k < l.length
    · obtain ⟨b, o, x, y, g1, rfl, c1, c2⟩ := spansAt_get hl hlt
      have hb : b < w.heap.size := World.block_lt_of_cell? w _ c1
      have c1 := (hB.cell (p := ⟨b, o + k * 2, none⟩) hb).trans c1
      have c2 := (hB.cell (p := ⟨b, o + k * 2 + 1, none⟩) hb).trans c2
      have hsz := hB.size
      have hB1 := hB.alloc hB.size (.cells #[.int .i64 x, .int .i64 y] 29)
      have hR := fun W => rhas_any x y t W
      have HN := Lib.hid hno
      clear hno
      cases hx : hasB x y t
      · have hn1 : inL (l.take (k + 1)) t = false := by rw [inL_take l k x y t g1.out, HN.out, hx]; rfl
        have HN1 := Lib.hid hn1
        rw [hx] at hR
        clear hn1 hx
        go_wp2_with (go_at_call 23; refine (hR _).mono ?_; rintro e w1 ⟨rfl, hb1⟩)
        exact ⟨⟨k + 1, by omega, by go_num, HN1.out, below_trans hB1 hB1.size hb1⟩, by simp [intOf]; omega⟩
      · have hy : inL l t = true := inL_has g1.out hx
        have HY := Lib.hid hy
        rw [hx] at hR
        clear hy hx
        go_wp2_with (go_at_call 23; refine (hR _).mono ?_; rintro e w1 ⟨rfl, hb1⟩)
        go_ret
        exact ⟨ret_bool HY.out.symm, below_trans hB1 hB1.size hb1⟩
    · have he : l.take k = l := List.take_of_length_le (by omega)
      rw [he] at hno
      have HE := Lib.hid hno
      clear he hno
      go_wp2
      go_ret
      exact ⟨ret_bool HE.out.symm, hB⟩

set_option maxRecDepth 100000 in
theorem rof1_any (l : List (Int × Int)) (bl : Nat) (ao : Option Addr) (cap : Nat) (w : World) (hc : w.cell? ⟨bl, 0, none⟩ = some (.slice ao l.length cap)) (hl : spansAt w ao l) (hlen : l.length ≤ maxLen) :
    PredB Tryd.prog 22 #[.pointer (some ⟨bl, 0, none⟩)] (inL l) w := by
  intro W t hW
  have hc := below_cell hW (World.block_lt_of_cell? w _ hc) hc
  have hl := spansAt.below hl hW
  clear hW
  unfold maxLen at hlen
  show Calls Tryd.prog 22 #[.int .i64 t, .pointer (some ⟨bl, 0, none⟩)] W _
  go_enter Tryd.func22, Tryd.ntmps22
  go_wp2
  go_loopw [8] (fun i wr => ∃ k : Nat, k ≤ l.length ∧ i = .int .i64 k ∧ inL (l.take k) t = false ∧ Below W.heap.size W wr) (fun i _ => l.length - (intOf i).toNat)
  case atStart => exact ⟨0, by omega, rfl, rfl, Below.refl _ _⟩
  case round =>
    obtain ⟨k, hk, rfl, hno, hB⟩ := hrel
    by_cases hlt : k < l.length
    · obtain ⟨b, o, x, y, g1, rfl, c1, c2⟩ := spansAt_get hl hlt
      have hb : b < W.heap.size := World.block_lt_of_cell? W _ c1
      have c1 := (hB.cell (p := ⟨b, o + k * 2, none⟩) hb).trans c1
      have c2 := (hB.cell (p := ⟨b, o + k * 2 + 1, none⟩) hb).trans c2
      have hsz := hB.size
      have hB1 := hB.alloc hB.size (.cells #[.int .i64 x, .int .i64 y] 29)
      have hR := fun X => rhas_any x y t X
      have HN := Lib.hid hno
      clear hno
      cases hx : hasB x y t
      · have hn1 : inL (l.take (k + 1)) t = false := by rw [inL_take l k x y t g1.out, HN.out, hx]; rfl
        have HN1 := Lib.hid hn1
        rw [hx] at hR
        clear hn1 hx
        go_wp2_with (go_at_call 23; refine (hR _).mono ?_; rintro e w1 ⟨rfl, hb1⟩)
        exact ⟨⟨k + 1, by omega, by go_num, HN1.out, below_trans hB1 hB1.size hb1⟩, by simp [intOf]; omega⟩
      · have hy : inL l t = true := inL_has g1.out hx
        have HY := Lib.hid hy
        rw [hx] at hR
        clear hy hx
        go_wp2_with (go_at_call 23; refine (hR _).mono ?_; rintro e w1 ⟨rfl, hb1⟩)
        go_ret
        exact ⟨ret_bool HY.out.symm, below_trans hB1 hB1.size hb1⟩
    · have he : l.take k = l := List.take_of_length_le (by omega)
      rw [he] at hno
      have HE := Lib.hid hno
      clear he hno
      go_wp2
      go_ret
      exact ⟨ret_bool HE.out.symm, hB⟩

/-- The document's set of some spans. -/
def refOf (l : List (Int × Int)) : List (Int × Int) := whereL (inL l) (sortI (endsL l))

set_option maxRecDepth 100000 in
theorem rof_any (l : List (Int × Int)) (ao : Option Addr) (cap : Nat) (w : World) (hl : spansAt w ao l) (hlen : l.length ≤ 1000) :
    Calls Tryd.prog 6 #[.slice ao l.length cap] w fun e w' =>
      ∃ v, e = .returned v ∧ w'.ownsRow w.heap.size 29 2 v (refOf l).length (flat (refOf l)) ∧ Below w.heap.size w w' := by
  obtain ⟨i0, hi, hz0, hz1, hz2⟩ := info_parts infoInt
  have hlm : l.length ≤ maxLen := by unfold maxLen; omega
  obtain ⟨W0, hW0⟩ : ∃ W0, W0 = w.alloc (.cells #[.slice ao l.length cap] 22) := ⟨_, rfl⟩
  have hc0 : W0.cell? ⟨w.heap.size, 0, none⟩ = some (.slice ao l.length cap) := by rw [hW0]; simp
  have hB0 : Below w.heap.size w W0 := by rw [hW0]; exact (Below.refl _ _).alloc (Nat.le_refl _) _
  have hl0 := spansAt.below hl hB0
  have hs0 : W0.heap.size = w.heap.size + 1 := by rw [hW0]; simp
  have HW0 := Lib.hid hW0
  clear hW0
  go_enter Tryd.func6, Tryd.ntmps6
  go_wp2
  rw [← HW0.out]
  go_loopw [3, 8] (fun v i wr => ∃ j : Nat, j ≤ l.length ∧ i = .int .i64 j ∧
      wr.ownsRow W0.heap.size 3 1 v (endsL (l.take j)).length ((endsL (l.take j)).map (Value.int .i64)) ∧ Below W0.heap.size W0 wr) (fun _ i _ => l.length - (intOf i).toNat)
  case atStart => exact ⟨0, by omega, rfl, World.ownsRow_nil _ _ _ _, Below.refl _ _⟩
  case round =>
    obtain ⟨j, hj, rfl, hown1, hB1⟩ := hrel
    by_cases hlt1 : j < l.length
    · obtain ⟨b2, o2, x, y, g2, rfl, c2, c3⟩ := spansAt_get hl0 hlt1
      have hb2 : b2 < W0.heap.size := World.block_lt_of_cell? W0 _ c2
      have c2 := (hB1.cell (p := ⟨b2, o2 + j * 2, none⟩) hb2).trans c2
      have c3 := (hB1.cell (p := ⟨b2, o2 + j * 2 + 1, none⟩) hb2).trans c3
      have hsn2 := endsL_snoc l j x y g2.out
      have hle2 : (endsL (l.take j)).length + 2 ≤ l.length * 2 := by rw [endsL_length, List.length_take]; omega
      have hsz := hB1.size
      generalize hF : endsL (l.take j) = F at *
      have HS2 := Lib.hid hsn2
      have HF := Lib.hid hF
      clear hsn2 hF
      go_wp2_with (at_builtin; refine wpList_append_own _ rfl _ _ 41 rfl W0.heap.size 3 i0 (.int .i64 0) 1 8 Tryd.underlying41 hi hz0 hz1 hz2 rfl (by decide) _ _ _ rfl ((hown1.alloc _).alloc _) ⟨_, 0, none⟩ 2 2 [.int .i64 x, .int .i64 y] rfl rfl ?c1 ?c2 ?c3 ?c4 ?c5 ?_)
      case c1 =>
        intro i u hu
        have := cell_two_new (wr.alloc (.cells #[.int .i64 x, .int .i64 y] 29)) (.int .i64 x) (.int .i64 y) 3 i u hu
        simpa using this
      case c2 => intro u hu; simp at hu; rcases hu with rfl | rfl <;> rfl
      case c3 => unfold maxLen; omega
      case c4 => omega
      case c5 => simp; omega
      intro v' w2 hown2 hgr _
      go_wp2
      have hB2 : Below W0.heap.size W0 w2 := (((hB1.alloc (by omega) _).alloc (by simp; omega) _)).grown hgr (by simp; omega) (fun k hk => (hown1.lt k hk).1)
      refine ⟨⟨j + 1, by omega, by go_num, ?_, hB2⟩, by simp [intOf]; omega⟩
      rw [HS2.out, List.length_append]
      rw [hs0]
      simpa using hown2
    · have he : l.take j = l := List.take_of_length_le (by omega)
      rw [he] at hown1
      have hel : (endsL l).length = l.length * 2 := endsL_length l
      have HE := Lib.hid he
      clear he
      go_wp2_with (go_at_call 21; refine (sortInts_own W0.heap.size (endsL l) _ _ hown1 hB1.size (by omega)).mono ?_; rintro e w1 ⟨rfl, hown2, hb1⟩)
      have hB2 := hB1.trans hb1
      obtain ⟨ao2, cap2, rfl, hi2⟩ := ownsRow_ints (l := sortI (endsL l)) hown2
      refine (where_any 22 _ (inL l) (sortI (endsL l)) ao2 cap2 _ hi2 (enters_of Tryd.func22 (by kernel_rfl) rfl) (rof1_any l _ ao cap _ (below_cell hB2 (by omega) hc0) (spansAt.below hl0 hB2) hlm) (by rw [sortI_length]; omega)).mono ?_
      rintro e w3 ⟨v3, rfl, hown3, hb3⟩
      go_wp2
      go_ret
      exact ⟨_, rfl, ownsRow_mono hown3 (by have := hB2.size; omega), hB0.trans ((below_step hB2 hb3).mono (by omega))⟩
end Go.Proofs.YtmmkjokgjhcdlaaDoor
