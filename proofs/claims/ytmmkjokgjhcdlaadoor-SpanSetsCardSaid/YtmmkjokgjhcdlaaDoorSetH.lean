/- span.Set's Has, over slices.BinarySearchFunc. -/
import Derived.Test.YtmmkjokgjhcdlaaDoorSetM
import Derived.Deep.LoopGhost
namespace Go.Proofs.YtmmkjokgjhcdlaaDoor
open Go.RowKit Go.Shelf Go.Sort

/-- The ends rise. -/
def endsUp (l : List (Int × Int)) : Prop := ∀ (a b : Nat) (p q : Int × Int), a ≤ b → l[a]? = some p → l[b]? = some q → p.2 ≤ q.2
theorem norm_endsUp : ∀ {l : List (Int × Int)}, Norm l → endsUp l
  | [], _ => fun a b p q _ h _ => by simp at h
  | x :: l, h => by
    intro a b p q hab hp hq
    match a, b, hp, hq with
    | 0, 0, hp, hq => simp at hp hq; subst hp; subst hq; omega
    | 0, b + 1, hp, hq =>
      simp at hp hq; subst hp
      have hm := List.mem_of_getElem? hq
      have := h.2.1 q hm
      have := norm_pos h.2.2 q hm
      omega
    | a + 1, 0, _, _ => omega
    | a + 1, b + 1, hp, hq => exact norm_endsUp h.2.2 a b p q (by omega) (by simpa using hp) (by simpa using hq)

theorem norm_gap : ∀ {l : List (Int × Int)}, Norm l → ∀ (a b : Nat) (p q : Int × Int), a < b → l[a]? = some p → l[b]? = some q → p.2 < q.1
  | [], _ => fun a b p q _ h _ => by simp at h
  | x :: l, h => by
    intro a b p q hab hp hq
    match a, b, hp, hq with
    | 0, 0, hp, hq => omega
    | 0, b + 1, hp, hq =>
      simp at hp hq; subst hp
      exact h.2.1 q (List.mem_of_getElem? hq)
    | a + 1, 0, _, _ => omega
    | a + 1, b + 1, hp, hq => exact norm_gap h.2.2 a b p q (by omega) (by simpa using hp) (by simpa using hq)

/-- Where the search stops: all before end by then, all from there on end later. -/
def stopsAt (l : List (Int × Int)) (t : Int) (i : Nat) : Prop := i ≤ l.length ∧ (∀ j p, j < i → l[j]? = some p → p.2 ≤ t) ∧ ∀ j p, i ≤ j → l[j]? = some p → t < p.2

theorem has1_any (x y t : Int) (w : World) :
    Calls Tryd.prog 32 #[.agg #[.int .i64 x, .int .i64 y], .int .i64 t] w fun e w' => e = .returned (.int .i64 (if y ≤ t then -1 else 1)) ∧ Below w.heap.size w w' := by
  by_cases h : y ≤ t
  · rw [if_pos h]
    go_enter Tryd.func32, Tryd.ntmps32
    go_wp2
    go_ret
    exact ⟨rfl, (Below.refl _ _).alloc (Nat.le_refl _) _⟩
  · rw [if_neg h]
    go_enter Tryd.func32, Tryd.ntmps32
    go_wp2
    go_ret
    exact ⟨rfl, (Below.refl _ _).alloc (Nat.le_refl _) _⟩
theorem has1_le (x y t : Int) (w : World) (h : y ≤ t) :
    Calls Tryd.prog 32 #[.agg #[.int .i64 x, .int .i64 y], .int .i64 t] w fun e w' => e = .returned (.int .i64 (-1)) ∧ Below w.heap.size w w' := by
  have := has1_any x y t w; rw [if_pos h] at this; exact this
theorem has1_gt (x y t : Int) (w : World) (h : ¬ y ≤ t) :
    Calls Tryd.prog 32 #[.agg #[.int .i64 x, .int .i64 y], .int .i64 t] w fun e w' => e = .returned (.int .i64 1) ∧ Below w.heap.size w w' := by
  have := has1_any x y t w; rw [if_neg h] at this; exact this

set_option maxRecDepth 100000 in
theorem search_any (l : List (Int × Int)) (t : Int) (ao : Option Addr) (cap : Nat) (w : World) (hl : spansAt w ao l) (hu : endsUp l) (hlen : l.length ≤ 1000) :
    Calls Tryd.prog 31 #[.slice ao l.length cap, .int .i64 t, .func (.func 32) #[] #[]] w fun e w' => ∃ (i : Nat) (fb : Bool), e = .returned (.tuple #[.int .i64 i, .bool fb]) ∧ stopsAt l t i ∧ Below w.heap.size w w' := by
  have HU := Lib.hid hu
  clear hu
  go_enter Tryd.func31, Tryd.ntmps31
  go_wp2
  go_loopg [9, 10] l.length (fun g s9 s10 wr => ∃ lo hi : Nat, s9 = .int .i64 lo ∧ s10 = .int .i64 hi ∧ lo ≤ hi ∧ hi ≤ l.length ∧ hi - lo ≤ g ∧ Below w.heap.size w wr ∧
    Hid ((∀ j p, j < lo → l[j]? = some p → p.2 ≤ t) ∧ ∀ j p, hi ≤ j → l[j]? = some p → t < p.2))
  case atStart => exact ⟨0, l.length, rfl, rfl, Nat.zero_le _, Nat.le_refl _, by omega, Below.refl _ _, fun j p h => absurd h (Nat.not_lt_zero _), fun j p h1 h2 => by have := (List.getElem?_eq_some_iff.1 h2).1; omega⟩
  case round =>
    obtain ⟨lo, hi, rfl, rfl, hlh, hin, hg, hB, I⟩ := hrel
    have hsz := hB.size
    by_cases hlt : lo < hi
    · have hmid : (lo + hi) / 2 < l.length := by omega
      obtain ⟨b, o, x, y, g1, rfl, c1, c2⟩ := spansAt_get hl hmid
      have hb := World.block_lt_of_cell? w _ c1
      have c1 := below_cell hB hb c1
      have c2 := below_cell hB hb c2
      by_cases hyt : y ≤ t
      · have hc := has1_le x y t wr hyt
        have HY := Lib.hid hyt
        clear hyt
        go_wp2_with (go_at_call 32; refine hc.mono ?_; rintro e w1 ⟨rfl, hb1⟩)
        go_roundg (hi - ((lo + hi) / 2 + 1))
        case measure => omega
        case rel =>
          refine ⟨(lo + hi) / 2 + 1, hi, by rw [show ((lo : Int) + (hi : Int)) / 2 + 1 = (((lo + hi) / 2 + 1 : Nat) : Int) by omega], rfl, by omega, hin, Nat.le_refl _, below_trans hB hsz hb1, fun j p hj hp => ?_, I.out.2⟩
          have := HU.out j _ p (x, y) (by omega) hp g1.out
          have := HY.out
          simp only at *
          omega
      · have hc := has1_gt x y t wr hyt
        have HY := Lib.hid hyt
        clear hyt
        go_wp2_with (go_at_call 32; refine hc.mono ?_; rintro e w1 ⟨rfl, hb1⟩)
        go_roundg ((lo + hi) / 2 - lo)
        case measure => omega
        case rel =>
          refine ⟨lo, (lo + hi) / 2, rfl, by rw [show ((lo : Int) + (hi : Int)) / 2 = (((lo + hi) / 2 : Nat) : Int) by omega], by omega, by omega, Nat.le_refl _, below_trans hB hsz hb1, I.out.1, fun j p hj hp => ?_⟩
          have := HU.out _ j (x, y) p hj g1.out hp
          have := HY.out
          simp only at *
          omega
    · obtain rfl : hi = lo := by omega
      have hst : Hid (stopsAt l t hi) := ⟨hin, I.out.1, I.out.2⟩
      clear I
      by_cases hn : hi < l.length
      · obtain ⟨b, o, x, y, g1, rfl, c1, c2⟩ := spansAt_get hl hn
        have hb := World.block_lt_of_cell? w _ c1
        have c1 := below_cell hB hb c1
        have c2 := below_cell hB hb c2
        have hyt : ¬ y ≤ t := by have := hst.out.2.2 hi (x, y) (Nat.le_refl _) g1.out; simp only at this; omega
        have hc := has1_gt x y t wr hyt
        clear hyt
        go_wp2_with (go_at_call 32; refine hc.mono ?_; rintro e w1 ⟨rfl, hb1⟩)
        go_ret2
        exact ⟨_, _, rfl, hst.out, below_trans hB hsz hb1⟩
      · go_wp2_with fail
        go_ret2
        exact ⟨_, _, rfl, hst.out, hB⟩

theorem stops_in {l : List (Int × Int)} {t : Int} {i : Nat} (hn : Norm l) (h : stopsAt l t i) : (∀ x y, l[i]? = some (x, y) → inL l t = hasB x y t) ∧ (l.length ≤ i → inL l t = false) := by
  obtain ⟨h0, h1, h2⟩ := h
  have hmem : ∀ q ∈ l, q.1 ≤ t → t < q.2 → l[i]? = some q := by
    intro q hq hq1 hq2
    obtain ⟨j, hj⟩ := List.mem_iff_getElem?.1 hq
    rcases Nat.lt_trichotomy j i with hji | rfl | hji
    · have := h1 j q hji hj; omega
    · exact hj
    · exfalso
      have hlt := (List.getElem?_eq_some_iff.1 hj).1
      have hi : l[i]? = some l[i] := by simp
      have h3 := h2 i l[i] (Nat.le_refl _) hi
      have h4 := norm_gap hn i j l[i] q hji hi hj
      omega
  refine ⟨fun x y hxy => ?_, fun hle => ?_⟩
  · rw [Bool.eq_iff_iff, inL_iff, hasB_iff]
    constructor
    · rintro ⟨q, hq, hq1, hq2⟩
      have := hmem q hq hq1 hq2
      rw [hxy] at this; cases this
      exact ⟨hq1, hq2⟩
    · rintro ⟨a, b⟩
      exact ⟨_, List.mem_of_getElem? hxy, a, b⟩
  · rw [Bool.eq_false_iff]
    intro hc
    obtain ⟨q, hq, hq1, hq2⟩ := (inL_iff ..).1 hc
    have := (List.getElem?_eq_some_iff.1 (hmem q hq hq1 hq2)).1
    omega

set_option maxRecDepth 100000 in
theorem setHas_any (ba : Nat) (l : List (Int × Int)) (t : Int) (w : World) (ha : setAt w ba l) (hn : Norm l) :
    Calls Tryd.prog 11 #[.pointer (some ⟨ba, 0, none⟩), .int .i64 t] w fun e w' => e = .returned (.bool (inL l t)) ∧ Below w.heap.size w w' := by
  have hlt1 := ha.lt
  obtain ⟨a1, c1, k1, s1, n1, l1⟩ := ha
  have HN := Lib.hid hn
  clear hn
  go_enter Tryd.func11, Tryd.ntmps11
  go_wp2_with fail
  refine (search_any l t a1 c1 _ s1 (norm_endsUp HN.out) (by omega)).mono ?_
  rintro e w1 ⟨i, fb, rfl, hst, hb1⟩
  have hs1 := stops_in HN.out hst
  have HS := Lib.hid hs1
  clear hs1
  have hi0 := hst.1
  have k1' := below_cell hb1 hlt1 k1
  by_cases hi : i < l.length
  · obtain ⟨b, o, x, y, g1, rfl, d1, d2⟩ := spansAt_get s1 hi
    have hb : b < w.heap.size := World.block_lt_of_cell? w _ d1
    have d1 := below_cell hb1 hb d1
    have d2 := below_cell hb1 hb d2
    have he := HS.out.1 x y g1.out
    have HE := Lib.hid he
    clear hst he
    go_wp2_with (go_at_call 33; refine (has_any x y t _).mono ?_; rintro e w2 ⟨rfl, hb2⟩)

    go_ret
    exact ⟨ret_bool HE.out.symm, below_step hb1 hb2⟩
  · have he := HS.out.2 (by omega)
    have HE := Lib.hid he
    clear hst he
    go_wp2_with fail
    go_ret
    exact ⟨ret_bool HE.out.symm, hb1⟩
end Go.Proofs.YtmmkjokgjhcdlaaDoor
