/- cmp.Or at int: the first that is not 0. -/
import Derived.Sort.OwnSortedInts
import Derived.Test.YtacedfcckkpciaaGreatDoorRowK
import Derived.Test.YtacedfcckkpciaaGreatDoorShelfK
namespace Go.Proofs.YtacedfcckkpciaaGreatDoor
open Go.RowKit Go.Shelf Go.Sort

theorem sortInts_own (base : Nat) (l : List Int) (v : Value) (w : World) (hown : w.ownsRow base 3 1 v l.length (l.map (Value.int .i64))) (hb : base ≤ w.heap.size) (hsz : l.length < 4611686018427387904) :
    Calls Tryz.prog 176 #[v] w fun e w' => e = .returned (.tuple #[]) ∧ w'.ownsRow base 3 1 v l.length ((l.mergeSort fun x y => decide (x ≤ y)).map (Value.int .i64)) ∧ Below base w w' := by
  rcases hown.2 with ⟨rfl, hn⟩ | ⟨g, cap, cur, rfl, hbg, hh, hnc, hcm, hcs, htk⟩
  · have hl : l = [] := List.eq_nil_of_length_eq_zero hn
    subst hl
    refine (Tryz.sort_Ints_none none 0 w).mono ?_
    rintro e w' ⟨rfl, rfl⟩
    exact ⟨rfl, by simpa using hown, Below.refl _ _⟩
  · have hH : Holds (Value.int .i64) w g 0 l.toArray := holds_of_blockI hh (by rw [Nat.mul_one] at htk; exact htk)
    have hgl : g < w.heap.size := (Array.getElem?_eq_some_iff.1 hh).1
    refine (Tryz.sort_Ints g 0 cap l w hH hgl hsz).mono ?_
    rintro e w' ⟨rfl, n, os, rfl⟩
    refine ⟨rfl, ?_, ?_⟩
    · exact ownsRow_sortedI (by simp) hbg hh hnc hcm hcs
    · exact (Below.refl base w).grown (grownBy_sortedI _) hb (fun k hk => by cases hk; exact hbg)

/-- The slice of one slice of two spans that a call's variadic argument is. -/
theorem lists1 (X : World) (a b c d : Int) : listsAt ((X.alloc (.cells #[.int .i64 a, .int .i64 b, .int .i64 c, .int .i64 d] 44)).alloc (.cells #[.slice (some ⟨X.heap.size, 0, none⟩) 2 2] 137)) (some ⟨X.heap.size + 1, 0, none⟩) [[(a, b), (c, d)]] := by
  intro i l hl
  match i, hl with
  | 0, hl =>
    simp at hl; subst hl
    refine ⟨_, 0, some ⟨X.heap.size, 0, none⟩, 2, rfl, by simp, fun i x y h => ?_⟩
    match i, h with
    | 0, h => simp at h; obtain ⟨rfl, rfl⟩ := h; exact ⟨_, 0, rfl, by simp, by simp⟩
    | 1, h => simp at h; obtain ⟨rfl, rfl⟩ := h; exact ⟨_, 0, rfl, by simp, by simp⟩
theorem lists1' (X : World) (n : Nat) (hn : X.heap.size = n) (a b c d : Int) : listsAt ((X.alloc (.cells #[.int .i64 a, .int .i64 b, .int .i64 c, .int .i64 d] 44)).alloc (.cells #[.slice (some ⟨n, 0, none⟩) 2 2] 137)) (some ⟨n + 1, 0, none⟩) [[(a, b), (c, d)]] := by
  subst hn; exact lists1 X a b c d

set_option maxRecDepth 100000 in
theorem ends_any (L : List (List (Int × Int))) (ao : Option Addr) (cap : Nat) (w : World) (hL : listsAt w ao L) (hl0 : L.length ≤ maxLen) (hlen : (endsLL L).length * 8 ≤ 140737488355328) :
    Calls Tryz.prog 124 #[.slice ao L.length cap] w fun e w' =>
      ∃ v, e = .returned v ∧ w'.ownsRow w.heap.size 3 1 v (endsLL L).length ((sortI (endsLL L)).map (Value.int .i64)) ∧ Below w.heap.size w w' := by
  obtain ⟨i0, hi, hz0, hz1, hz2⟩ := info_parts infoInt
  unfold maxLen at hl0
  go_enter Tryz.func124, Tryz.ntmps124
  go_wp2
  go_loopw [3, 10] (fun v i wr => ∃ k : Nat, k ≤ L.length ∧ i = .int .i64 k ∧
      wr.ownsRow w.heap.size 3 1 v (endsLL (L.take k)).length ((endsLL (L.take k)).map (Value.int .i64)) ∧ Below w.heap.size w wr) (fun _ i _ => L.length - (intOf i).toNat)
  case atStart => exact ⟨0, by omega, rfl, World.ownsRow_nil _ _ _ _, Below.refl _ _⟩
  case round =>
    obtain ⟨k, hk, rfl, hown, hB⟩ := hrel
    by_cases hlt : k < L.length
    · obtain ⟨b, o, l, a, c, g1, rfl, c1, hs⟩ := listsAt_get hL hlt
      have hb := World.block_lt_of_cell? w _ c1
      have c1 := (hB.cell (p := ⟨b, o + k, none⟩) hb).trans c1
      have hsn := endsLL_snoc L k l g1.out
      have hle := endsLL_take_le L (k + 1)
      rw [hsn, List.length_append, endsL_length] at hle
      generalize endsLL (L.take k) = E at *
      have HS := Lib.hid hsn
      clear hsn
      obtain ⟨wo, rfl⟩ : ∃ wo : World, wo = wr := ⟨_, rfl⟩
      go_wp2
      go_loopw [3, 16] (fun v i wr => ∃ j : Nat, j ≤ l.length ∧ i = .int .i64 j ∧
          wr.ownsRow w.heap.size 3 1 v (E ++ endsL (l.take j)).length ((E ++ endsL (l.take j)).map (Value.int .i64)) ∧ Below w.heap.size w wr) (fun _ i _ => l.length - (intOf i).toNat)
      case atStart => exact ⟨0, by omega, rfl, by simpa [endsL] using hown, hB⟩
      case round =>
        obtain ⟨j, hj, rfl, hown1, hB1⟩ := hrel
        by_cases hlt1 : j < l.length
        · obtain ⟨b2, o2, x, y, g2, rfl, c2, c3⟩ := spansAt_get hs hlt1
          have hb2 : b2 < w.heap.size := World.block_lt_of_cell? w _ c2
          have c2 := (hB1.cell (p := ⟨b2, o2 + j * 2, none⟩) hb2).trans c2
          have c3 := (hB1.cell (p := ⟨b2, o2 + j * 2 + 1, none⟩) hb2).trans c3
          have hsn2 := endsL_snoc l j x y g2.out
          have hle2 : (endsL (l.take j)).length + 2 ≤ l.length * 2 := by rw [endsL_length, List.length_take]; omega
          have hsz := hB1.size
          generalize hF : endsL (l.take j) = F at *
          have HS2 := Lib.hid hsn2
          have HF := Lib.hid hF
          clear hsn2 hF
          rw [List.length_append] at hown1
          go_wp2_with (at_builtin; refine wpList_append_own _ rfl _ _ 59 rfl w.heap.size 3 i0 (.int .i64 0) 1 8 Tryz.underlying59 hi hz0 hz1 hz2 rfl (by decide) _ _ _ rfl ((hown1.alloc _).alloc _) ⟨_, 0, none⟩ 2 2 [.int .i64 x, .int .i64 y] rfl rfl ?c1 ?c2 ?c3 ?c4 ?c5 ?_)
          case c1 =>
            intro i u hu
            have := cell_two_new (wr.alloc (.cells #[.int .i64 x, .int .i64 y] 44)) (.int .i64 x) (.int .i64 y) 3 i u hu
            simpa using this
          case c2 => intro u hu; simp at hu; rcases hu with rfl | rfl <;> rfl
          case c3 => unfold maxLen; omega
          case c4 => omega
          case c5 => simp; omega
          intro v' w2 hown2 hgr _
          go_wp2
          have hB2 : Below w.heap.size w w2 := (((hB1.alloc (by omega) _).alloc (by simp; omega) _)).grown hgr (by simp; omega) (fun k hk => (hown1.lt k hk).1)
          refine ⟨⟨j + 1, by omega, by go_num, ?_, hB2⟩, by simp [intOf]; omega⟩
          rw [HS2.out, ← List.append_assoc, List.length_append, List.length_append]
          simpa using hown2
        · have he : l.take j = l := List.take_of_length_le (by omega)
          rw [he] at hown1
          have HE := Lib.hid he
          clear he
          go_wp2
          refine ⟨⟨k + 1, by omega, by go_num, by rw [HS.out]; exact hown1, hB1⟩, by simp [intOf]; omega⟩
    · have he : L.take k = L := List.take_of_length_le (by omega)
      rw [he] at hown
      have HE := Lib.hid he
      clear he
      go_wp2_with (go_at_call 176; refine (sortInts_own w.heap.size (endsLL L) _ _ hown hB.size (by omega)).mono ?_; rintro e w1 ⟨rfl, hown1, hb1⟩)
      go_ret
      exact ⟨_, rfl, hown1, hB.trans hb1⟩
end Go.Proofs.YtacedfcckkpciaaGreatDoor

namespace Go.Proofs.YtacedfcckkpciaaGreatDoor
open Go.RowKit Go.Shelf Go.Sort

def orI (l : List Int) : Int := (l.find? (fun x => x != 0)).getD 0
theorem or_any (l : List Int) (ao : Option Addr) (cap : Nat) (w : World) (hl : intsAt w ao l) (hm : l.length ≤ maxLen) :
    Calls Tryz.prog 165 #[.slice ao l.length cap] w fun e w' => e = .returned (.int .i64 (orI l)) ∧ w = w' := by
  unfold maxLen at hm
  go_enter Tryz.func165, Tryz.ntmps165
  go_wp2
  go_loop [8] (fun i => ∃ k : Nat, k ≤ l.length ∧ i = .int .i64 k ∧ Hid (orI l = orI (l.drop k))) (fun i => l.length - (intOf i).toNat)
  case atStart => exact ⟨0, by omega, rfl, rfl⟩
  case round =>
    obtain ⟨k, hk, rfl, ho⟩ := hrel
    by_cases hlt : k < l.length
    · obtain ⟨b, o, x, g1, rfl, c1⟩ := intsAt_get hl hlt
      have hd : l.drop k = x :: l.drop (k + 1) := by
        have := List.drop_eq_getElem_cons hlt
        rw [this]; congr 1
        have h := g1.out; rw [List.getElem?_eq_getElem hlt] at h; exact Option.some.inj h
      by_cases hx : x = 0
      · have e : orI l = orI (l.drop (k + 1)) := by rw [ho.out, hd, hx]; simp [orI]
        have E := Lib.hid e
        subst hx
        clear e hd ho
        go_wp2
        go_round
        case rel => exact ⟨k + 1, by omega, by go_num, E⟩
        case measure => simp [intOf]; omega
      · have e : orI l = x := by rw [ho.out, hd]; simp [orI, hx]
        have E := Lib.hid e
        have hx1 : (x != 0) = true := by simpa using hx
        clear e hd ho
        go_wp2
        go_ret
        exact ⟨by rw [E.out]; rfl, rfl⟩
    · have e : orI l = 0 := by rw [ho.out, List.drop_eq_nil_of_le (by omega)]; rfl
      have E := Lib.hid e
      clear e ho
      go_wp2
      go_ret
      exact ⟨by rw [E.out]; rfl, rfl⟩

theorem ints2 (W : World) (x y : Int) : intsAt (W.alloc (.cells #[.int .i64 x, .int .i64 y] 3)) (some ⟨W.heap.size, 0, none⟩) [x, y] := by
  intro i u hu
  match i, hu with
  | 0, hu => simp at hu; subst hu; exact ⟨_, 0, rfl, by simp⟩
  | 1, hu => simp at hu; subst hu; exact ⟨_, 0, rfl, by simp⟩

end Go.Proofs.YtacedfcckkpciaaGreatDoor
