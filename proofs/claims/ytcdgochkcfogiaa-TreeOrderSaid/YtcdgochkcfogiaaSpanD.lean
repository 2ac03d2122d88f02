/- The reference's Ends: all ends of some lists of spans, rising. -/
import Derived.Test.YtcdgochkcfogiaaSpanC
import Derived.Test.YtcdgochkcfogiaaShelf
import Derived.Sort.OwnSortedInts
namespace Go.Proofs.Ytcdgochkcfogiaa
open Go.RowKit Go.Shelf Go.Sort

theorem sortInts_own (base : Nat) (l : List Int) (v : Value) (w : World) (hown : w.ownsRow base 3 1 v l.length (l.map (Value.int .i64))) (hb : base ≤ w.heap.size) (hsz : l.length < 4611686018427387904) :
    Calls Try.prog 34 #[v] w fun e w' => e = .returned (.tuple #[]) ∧ w'.ownsRow base 3 1 v l.length ((l.mergeSort fun x y => decide (x ≤ y)).map (Value.int .i64)) ∧ Below base w w' := by
  rcases hown.2 with ⟨rfl, hn⟩ | ⟨g, cap, cur, rfl, hbg, hh, hnc, hcm, hcs, htk⟩
  · have hl : l = [] := List.eq_nil_of_length_eq_zero hn
    subst hl
    refine (Try.sort_Ints_none none 0 w).mono ?_
    rintro e w' ⟨rfl, rfl⟩
    exact ⟨rfl, by simpa using hown, Below.refl _ _⟩
  · have hH : Holds (Value.int .i64) w g 0 l.toArray := holds_of_blockI hh (by rw [Nat.mul_one] at htk; exact htk)
    have hgl : g < w.heap.size := (Array.getElem?_eq_some_iff.1 hh).1
    refine (Try.sort_Ints g 0 cap l w hH hgl hsz).mono ?_
    rintro e w' ⟨rfl, n, os, rfl⟩
    refine ⟨rfl, ?_, ?_⟩
    · exact ownsRow_sortedI (by simp) hbg hh hnc hcm hcs
    · exact (Below.refl base w).grown (grownBy_sortedI _) hb (fun k hk => by cases hk; exact hbg)

theorem infoInt : (Try.prog.info? 3).map (fun i => (i.zero, i.size, i.bytes)) = some (some (.int .i64 0), 1, 8) := by kernel_rfl

/-- A slice of slices of spans. -/
def listsAt (w : World) (ao : Option Addr) (L : List (List (Int × Int))) : Prop :=
  ∀ i l, L[i]? = some l → ∃ b o a c, ao = some ⟨b, o, none⟩ ∧ w.cell? ⟨b, o + i, none⟩ = some (.slice a l.length c) ∧ spansAt w a l
def endsLL (L : List (List (Int × Int))) : List Int := L.flatMap endsL
theorem endsL_length (l : List (Int × Int)) : (endsL l).length = l.length * 2 := by
  induction l with
  | nil => rfl
  | cons a l ih => simp only [endsL, List.flatMap_cons, List.length_append, List.length_cons, List.length_nil] at ih ⊢; omega
theorem endsL_snoc (l : List (Int × Int)) (k : Nat) (x y : Int) (h : l[k]? = some (x, y)) : endsL (l.take (k + 1)) = endsL (l.take k) ++ [x, y] := by
  rw [List.take_add_one, h]; simp [endsL]
theorem endsLL_snoc (L : List (List (Int × Int))) (k : Nat) (l : List (Int × Int)) (h : L[k]? = some l) : endsLL (L.take (k + 1)) = endsLL (L.take k) ++ endsL l := by
  rw [List.take_add_one, h]; simp [endsLL]
theorem endsLL_take_le (L : List (List (Int × Int))) (k : Nat) : (endsLL (L.take k)).length ≤ (endsLL L).length := by
  have h : endsLL L = endsLL (L.take k) ++ endsLL (L.drop k) := by
    unfold endsLL; rw [← List.flatMap_append, List.take_append_drop]
  rw [h, List.length_append]; omega
theorem endsL_take_le (l : List (Int × Int)) (k : Nat) : (endsL (l.take k)).length ≤ (endsL l).length := by
  rw [endsL_length, endsL_length, List.length_take]; omega
theorem listsAt_get {w : World} {ao : Option Addr} {L : List (List (Int × Int))} (h : listsAt w ao L) {k : Nat} (hk : k < L.length) :
    ∃ b o l a c, Hid (L[k]? = some l) ∧ ao = some ⟨b, o, none⟩ ∧ w.cell? ⟨b, o + k, none⟩ = some (.slice a l.length c) ∧ spansAt w a l := by
  obtain ⟨b, o, a, c, h1, h2, h3⟩ := h k L[k] (by simp [hk])
  exact ⟨b, o, L[k], a, c, (by show L[k]? = _; simp [hk]), h1, h2, h3⟩
theorem spansAt.below {w w' : World} {ao : Option Addr} {l : List (Int × Int)} (h : spansAt w ao l) (hb : Below w.heap.size w w') : spansAt w' ao l :=
  fun i x y hi => let ⟨b, o, h1, h2, h3⟩ := h i x y hi
    have hl := World.block_lt_of_cell? w _ h2
    ⟨b, o, h1, (hb.cell (p := ⟨b, o + i * 2, none⟩) hl).trans h2, (hb.cell (p := ⟨b, o + i * 2 + 1, none⟩) hl).trans h3⟩
theorem intsAt.below {w w' : World} {ao : Option Addr} {l : List Int} (h : intsAt w ao l) (hb : Below w.heap.size w w') : intsAt w' ao l :=
  fun i x hi => let ⟨b, o, h1, h2⟩ := h i x hi
    have hl := World.block_lt_of_cell? w _ h2
    ⟨b, o, h1, (hb.cell (p := ⟨b, _, none⟩) hl).trans h2⟩
theorem listsAt.below {w w' : World} {ao : Option Addr} {L : List (List (Int × Int))} (h : listsAt w ao L) (hb : Below w.heap.size w w') : listsAt w' ao L :=
  fun i l hi => let ⟨b, o, a, c, h1, h2, h3⟩ := h i l hi
    have hl := World.block_lt_of_cell? w _ h2
    ⟨b, o, a, c, h1, (hb.cell (p := ⟨b, _, none⟩) hl).trans h2, h3.below hb⟩

/-- What a call has built of its own, as the next one reads it. -/
theorem ownsRow_slice {w : World} {base : Nat} {e : TypeId} {size : Nat} {v : Value} {n : Nat} {xs : List Value} (h : w.ownsRow base e size v n xs) :
    ∃ ao cap, v = .slice ao n cap ∧ (ao = none → cap = 0) ∧ ∀ j u, xs[j]? = some u → ∃ b, ao = some ⟨b, 0, none⟩ ∧ w.cell? ⟨b, j, none⟩ = some u := by
  have h0 := h
  rcases h.2 with ⟨rfl, hn⟩ | ⟨g, cap, cur, rfl, hbg, hh, hnc, hcm, hcs, htk⟩
  · subst hn
    have hx : xs = [] := List.eq_nil_of_length_eq_zero (by simpa using h.1)
    subst hx
    exact ⟨none, 0, rfl, fun _ => rfl, fun j u hu => by simp at hu⟩
  · refine ⟨some ⟨g, 0, none⟩, cap, rfl, (fun h => by cases h), fun j u hu => ⟨g, rfl, ?_⟩⟩
    have hj : j < n * size := by
      rw [← h.1]; exact (List.getElem?_eq_some_iff.1 hu).1
    rw [h0.cellAt j hj, hu]
theorem ownsRow_ints {w : World} {base n : Nat} {v : Value} {l : List Int} {e : TypeId} (h : w.ownsRow base e 1 v n (l.map (Value.int .i64))) : ∃ ao cap, v = .slice ao l.length cap ∧ intsAt w ao l := by
  have hn : n = l.length := by have := h.1; simp at this; omega
  subst hn
  obtain ⟨ao, cap, rfl, _, hc⟩ := ownsRow_slice h
  refine ⟨ao, cap, rfl, fun i x hx => ?_⟩
  obtain ⟨b, h1, h2⟩ := hc i (.int .i64 x) (by simp [hx])
  exact ⟨b, 0, h1, by rw [Nat.zero_add]; exact h2⟩
theorem flat_get (l : List (Int × Int)) (i : Nat) (x y : Int) (h : l[i]? = some (x, y)) : (flat l)[i * 2]? = some (.int .i64 x) ∧ (flat l)[i * 2 + 1]? = some (.int .i64 y) := by
  induction l generalizing i with
  | nil => simp at h
  | cons p l ih =>
    cases i with
    | zero => simp at h; subst h; simp [flat]
    | succ i =>
      have := ih i (by simpa using h)
      have e1 : (i + 1) * 2 = i * 2 + 1 + 1 := by omega
      rw [e1]
      simpa [flat] using this
theorem ownsRow_spansN {w : World} {base n : Nat} {v : Value} {l : List (Int × Int)} {e : TypeId} (h : w.ownsRow base e 2 v n (flat l)) : ∃ ao cap, v = .slice ao l.length cap ∧ spansAt w ao l ∧ (ao = none → cap = 0) := by
  have hn : n = l.length := by have := h.1; rw [flat_length] at this; omega
  subst hn
  obtain ⟨ao, cap, rfl, hn, hc⟩ := ownsRow_slice h
  refine ⟨ao, cap, rfl, fun i x y hx => ?_, hn⟩
  obtain ⟨f1, f2⟩ := flat_get l i x y hx
  obtain ⟨b, h1, h2⟩ := hc _ _ f1
  obtain ⟨b', h1', h2'⟩ := hc _ _ f2
  rw [h1] at h1'; cases h1'
  exact ⟨b, 0, h1, by rw [Nat.zero_add]; exact h2, by rw [Nat.zero_add]; exact h2'⟩
theorem ownsRow_spans {w : World} {base n : Nat} {v : Value} {l : List (Int × Int)} {e : TypeId} (h : w.ownsRow base e 2 v n (flat l)) : ∃ ao cap, v = .slice ao l.length cap ∧ spansAt w ao l :=
  let ⟨ao, cap, h1, h2, _⟩ := ownsRow_spansN h; ⟨ao, cap, h1, h2⟩
theorem sortI_length (l : List Int) : (sortI l).length = l.length := by simp [sortI]
/-- The slice of one slice of two spans that a call's variadic argument is. -/
theorem lists1 (X : World) (a b c d : Int) : listsAt ((X.alloc (.cells #[.int .i64 a, .int .i64 b, .int .i64 c, .int .i64 d] 23)).alloc (.cells #[.slice (some ⟨X.heap.size, 0, none⟩) 2 2] 26)) (some ⟨X.heap.size + 1, 0, none⟩) [[(a, b), (c, d)]] := by
  intro i l hl
  match i, hl with
  | 0, hl =>
    simp at hl; subst hl
    refine ⟨_, 0, some ⟨X.heap.size, 0, none⟩, 2, rfl, by simp, fun i x y h => ?_⟩
    match i, h with
    | 0, h => simp at h; obtain ⟨rfl, rfl⟩ := h; exact ⟨_, 0, rfl, by simp, by simp⟩
    | 1, h => simp at h; obtain ⟨rfl, rfl⟩ := h; exact ⟨_, 0, rfl, by simp, by simp⟩
theorem lists1' (X : World) (n : Nat) (hn : X.heap.size = n) (a b c d : Int) : listsAt ((X.alloc (.cells #[.int .i64 a, .int .i64 b, .int .i64 c, .int .i64 d] 23)).alloc (.cells #[.slice (some ⟨n, 0, none⟩) 2 2] 26)) (some ⟨n + 1, 0, none⟩) [[(a, b), (c, d)]] := by
  subst hn; exact lists1 X a b c d

set_option maxRecDepth 100000 in
theorem ends_any (L : List (List (Int × Int))) (ao : Option Addr) (cap : Nat) (w : World) (hL : listsAt w ao L) (hl0 : L.length ≤ maxLen) (hlen : (endsLL L).length * 8 ≤ 140737488355328) :
    Calls Try.prog 11 #[.slice ao L.length cap] w fun e w' =>
      ∃ v, e = .returned v ∧ w'.ownsRow w.heap.size 3 1 v (endsLL L).length ((sortI (endsLL L)).map (Value.int .i64)) ∧ Below w.heap.size w w' := by
  obtain ⟨i0, hi, hz0, hz1, hz2⟩ := info_parts infoInt
  unfold maxLen at hl0
  go_enter Try.func11, Try.ntmps11
  go_wp2
  go_loopw [3, 10] (fun v i wr => ∃ k : Nat, k ≤ L.length ∧ i = .int .i64 k ∧
      wr.ownsRow w.heap.size 3 1 v (endsLL (L.take k)).length ((endsLL (L.take k)).map (Value.int .i64)) ∧ Below w.heap.size w wr) (fun _ i _ => L.length - (intOf i).toNat)
  case atStart => exact ⟨0, by omega, rfl, World.ownsRow_nil _ _ _ _, Below.refl _ _⟩
  case round =>
    obtain ⟨k, hk, rfl, hown, hB⟩ := hrel
    by_cases hlt : k < L.length
    · obtain ⟨b, o, l, a, c, g1, rfl, c1, hs⟩ := listsAt_get hL hlt
      have hb := World.block_lt_of_cell? w _ c1
      have c1 := (hB.cell (p := ⟨b, o + k, none⟩) hb).trans c1
      have hsn := endsLL_snoc L k l g1.out
      have hle := endsLL_take_le L (k + 1)
      rw [hsn, List.length_append, endsL_length] at hle
      generalize endsLL (L.take k) = E at *
      have HS := Lib.hid hsn
      clear hsn
      obtain ⟨wo, rfl⟩ : ∃ wo : World, wo = wr := ⟨_, rfl⟩
      go_wp2
      go_loopw [3, 16] (fun v i wr => ∃ j : Nat, j ≤ l.length ∧ i = .int .i64 j ∧
          wr.ownsRow w.heap.size 3 1 v (E ++ endsL (l.take j)).length ((E ++ endsL (l.take j)).map (Value.int .i64)) ∧ Below w.heap.size w wr) (fun _ i _ => l.length - (intOf i).toNat)
      case atStart => exact ⟨0, by omega, rfl, by simpa [endsL] using hown, hB⟩
      case round =>
        obtain ⟨j, hj, rfl, hown1, hB1⟩ := hrel
        by_cases hlt1 : j < l.length
        · obtain ⟨b2, o2, x, y, g2, rfl, c2, c3⟩ := spansAt_get hs hlt1
          have hb2 : b2 < w.heap.size := World.block_lt_of_cell? w _ c2
          have c2 := (hB1.cell (p := ⟨b2, o2 + j * 2, none⟩) hb2).trans c2
          have c3 := (hB1.cell (p := ⟨b2, o2 + j * 2 + 1, none⟩) hb2).trans c3
          have hsn2 := endsL_snoc l j x y g2.out
          have hle2 : (endsL (l.take j)).length + 2 ≤ l.length * 2 := by rw [endsL_length, List.length_take]; omega
          have hsz := hB1.size
          generalize hF : endsL (l.take j) = F at *
          have HS2 := Lib.hid hsn2
          have HF := Lib.hid hF
          clear hsn2 hF
          rw [List.length_append] at hown1
          go_wp2_with (at_builtin; refine wpList_append_own _ rfl _ _ 28 rfl w.heap.size 3 i0 (.int .i64 0) 1 8 Try.underlying28 hi hz0 hz1 hz2 rfl (by decide) _ _ _ rfl ((hown1.alloc _).alloc _) ⟨_, 0, none⟩ 2 2 [.int .i64 x, .int .i64 y] rfl rfl ?c1 ?c2 ?c3 ?c4 ?c5 ?_)
          case c1 =>
            intro i u hu
            have := cell_two_new (wr.alloc (.cells #[.int .i64 x, .int .i64 y] 23)) (.int .i64 x) (.int .i64 y) 3 i u hu
            simpa using this
          case c2 => intro u hu; simp at hu; rcases hu with rfl | rfl <;> rfl
          case c3 => unfold maxLen; omega
          case c4 => omega
          case c5 => simp; omega
          intro v' w2 hown2 hgr _
          go_wp2
          have hB2 : Below w.heap.size w w2 := (((hB1.alloc (by omega) _).alloc (by simp; omega) _)).grown hgr (by simp; omega) (fun k hk => (hown1.lt k hk).1)
          refine ⟨⟨j + 1, by omega, by go_num, ?_, hB2⟩, by simp [intOf]; omega⟩
          rw [HS2.out, ← List.append_assoc, List.length_append, List.length_append]
          simpa using hown2
        · have he : l.take j = l := List.take_of_length_le (by omega)
          rw [he] at hown1
          have HE := Lib.hid he
          clear he
          go_wp2
          refine ⟨⟨k + 1, by omega, by go_num, by rw [HS.out]; exact hown1, hB1⟩, by simp [intOf]; omega⟩
    · have he : L.take k = L := List.take_of_length_le (by omega)
      rw [he] at hown
      have HE := Lib.hid he
      clear he
      go_wp2_with (go_at_call 34; refine (sortInts_own w.heap.size (endsLL L) _ _ hown hB.size (by omega)).mono ?_; rintro e w1 ⟨rfl, hown1, hb1⟩)
      go_ret
      exact ⟨_, rfl, hown1, hB.trans hb1⟩
end Go.Proofs.Ytcdgochkcfogiaa
