/- What TreeOrder's loops lean on. -/
import Derived.Test.YtcdgochkcfogiaaTreeV
import Derived.BigRegion
import Derived.BigQuiet
namespace Go.Proofs.Ytcdgochkcfogiaa
open Go.RowKit Go.Deep Go.Shelf Go.Sort

theorem itemsOf_succ (l : List (Int × Int)) (d : Int) (k : Nat) : itemsOf l d (k + 1) = itemsOf l d k ++ [itemAt l d k] := by simp [itemsOf, List.range_succ]
theorem rotOf_succ (l : List (Int × Int)) (d : Int) (r k : Nat) : rotOf l d r (k + 1) = rotOf l d r k ++ [itemAt l d ((k + r) % l.length)] := by simp [rotOf, List.range_succ]
theorem itemsOf_length (l : List (Int × Int)) (d : Int) (k : Nat) : (itemsOf l d k).length = k := by simp [itemsOf]
theorem rotOf_length (l : List (Int × Int)) (d : Int) (r k : Nat) : (rotOf l d r k).length = k := by simp [rotOf]
theorem itemAt_get {l : List (Int × Int)} {k : Nat} {x y : Int} (h : l[k]? = some (x, y)) (d : Int) : itemAt l d k = ((fitP (x, y)).1, d + (k : Int), (fitP (x, y)).2) := by
  simp [itemAt, List.getD_eq_getElem?_getD, h]
theorem any_items (l : List (Int × Int)) (d : Int) (k : Nat) (id : Int) (h : ∀ j : Nat, j < k → d + (j : Int) ≠ id) : (itemsOf l d k).any (fun y => y.2.1 == id) = false := by
  rw [Bool.eq_false_iff]; intro e
  obtain ⟨y, hy, e⟩ := List.any_eq_true.1 e
  obtain ⟨j, hj, rfl⟩ := List.mem_map.1 hy
  exact h j (List.mem_range.1 hj) (by simpa [itemAt] using e)
theorem any_rot (l : List (Int × Int)) (d : Int) (r k : Nat) (id : Int) (h : ∀ j : Nat, j < k → d + (((j + r) % l.length : Nat) : Int) ≠ id) : (rotOf l d r k).any (fun y => y.2.1 == id) = false := by
  rw [Bool.eq_false_iff]; intro e
  obtain ⟨y, hy, e⟩ := List.any_eq_true.1 e
  obtain ⟨j, hj, rfl⟩ := List.mem_map.1 hy
  exact h j (List.mem_range.1 hj) (by simpa [itemAt] using e)
theorem rot_inj {n r i j : Nat} (hr : r < n) (hi : i < n) (hj : j < n) (h : (i + r) % n = (j + r) % n) : i = j := by
  have e : ∀ i, i < n → (i + r) % n = if i < n - r then i + r else i + r - n := fun i hi => by
    split
    · exact Nat.mod_eq_of_lt (by omega)
    · rw [Nat.mod_eq_sub_mod (by omega), Nat.mod_eq_of_lt (by omega)]
  rw [e i hi, e j hj] at h
  split at h <;> split at h <;> omega
/-- Those that are still to go. -/
def restOf (l : List (Int × Int)) (d : Int) (r k : Nat) : List It := (List.range' k (l.length - k)).map fun i => itemAt l d ((i + r) % l.length)
theorem restOf_zero (l : List (Int × Int)) (d : Int) (r : Nat) : restOf l d r 0 = rotOf l d r l.length := by simp [restOf, rotOf, List.range_eq_range']
theorem restOf_succ (l : List (Int × Int)) (d : Int) (r k : Nat) (h : k < l.length) : restOf l d r k = itemAt l d ((k + r) % l.length) :: restOf l d r (k + 1) := by
  unfold restOf
  obtain ⟨n, hn⟩ : ∃ n, l.length - k = n + 1 := ⟨l.length - k - 1, by omega⟩
  rw [hn, List.range'_succ, List.map_cons, show l.length - (k + 1) = n by omega]
theorem restOf_end (l : List (Int × Int)) (d : Int) (r : Nat) : restOf l d r l.length = [] := by simp [restOf]
theorem restOf_length (l : List (Int × Int)) (d : Int) (r k : Nat) : (restOf l d r k).length = l.length - k := by simp [restOf]
theorem i64L_get {l : List (Int × Int)} (h : i64L l) {k : Nat} {x y : Int} (e : l[k]? = some (x, y)) : (-9223372036854775808 ≤ x ∧ x < 9223372036854775808) ∧ (-9223372036854775808 ≤ y ∧ y < 9223372036854775808) := h (x, y) (List.mem_of_getElem? e)

/-- What the second loop keeps. -/
def LP2 (w : World) (B : Nat) (l m : List (Int × Int)) (r k : Nat) (wr : World) : Prop := Two B B (B + 1) (itemsOf l 0 k).reverse ((rotOf l 0 r k).reverse ++ (itemsOf m 1000 m.length).reverse) wr ∧ Below w.heap.size w wr
theorem pick_nat (turn : Int) (n : Nat) (h : n ≤ 100) : ∃ r : Nat, 0 < n → pickI turn n = r ∧ r < n := by
  by_cases h0 : 0 < n
  · have := pickI_lt turn n (by omega) (by omega)
    exact ⟨(pickI turn n).toNat, fun _ => by omega⟩
  · exact ⟨0, fun h => absurd h h0⟩
/-- What the third loop keeps. -/
def LP3 (w : World) (B : Nat) (l m : List (Int × Int)) (r s k : Nat) (wr : World) : Prop := Two B B (B + 1) (itemsOf l 0 l.length).reverse ((rotOf l 0 r l.length).reverse ++ restOf m 1000 s k) wr ∧ Below w.heap.size w wr
theorem rest_start (m : List (Int × Int)) (d : Int) (s : Nat) (h : 0 < m.length → s < m.length) : ((itemsOf m d m.length).reverse).Perm (restOf m d s 0) := by
  rw [restOf_zero]
  by_cases h0 : 0 < m.length
  · exact (List.reverse_perm _).trans (rotOf_perm m d s (h h0)).symm
  · have : m = [] := List.eq_nil_of_length_eq_zero (by omega)
    subst this; exact .refl _
theorem rot_end (l : List (Int × Int)) (m : List (Int × Int)) (d d' : Int) (r s : Nat) (h : 0 < l.length → r < l.length) : ((rotOf l d r l.length).reverse ++ restOf m d' s m.length).Perm (itemsOf l d l.length) := by
  rw [restOf_end, List.append_nil]
  by_cases h0 : 0 < l.length
  · exact (List.reverse_perm _).trans (rotOf_perm l d r (h h0))
  · have : l = [] := List.eq_nil_of_length_eq_zero (by omega)
    subst this; exact .refl _
/-- What the last loop keeps. -/
def LP4 (w : World) (B : Nat) (l : List (Int × Int)) (wr : World) : Prop := Two B B (B + 1) (itemsOf l 0 l.length) (itemsOf l 0 l.length) wr ∧ Below w.heap.size w wr
theorem hasAt_get {l : List (Int × Int)} {j : Nat} {x y : Int} (h : l[j]? = some (x, y)) (p : Int) : hasAt l p (p + 1) j = hasB (fitP (x, y)).1 (fitP (x, y)).2 p := by
  unfold hasAt
  rw [itemAt_get h 0]
  unfold meetsT hasB
  rw [Bool.eq_iff_iff]; simp; omega
/-- The count of those so far, in the loop over all. -/
def LP5 (P : Nat → Bool) (W : World) (n : Nat) (cv kv : Value) (wr : World) : Prop := ∃ j c : Nat, j ≤ n ∧ Hid (c = (hits P j).length) ∧ kv = .int .i64 j ∧ cv = .int .i64 c ∧ Below W.heap.size W wr
theorem intsAt_at {w : World} {ao : Option Addr} {l : List Int} (h : intsAt w ao l) {i : Nat} {x : Int} (e : l[i]? = some x) : ∃ b o, ao = some ⟨b, o, none⟩ ∧ w.cell? ⟨b, o + i, none⟩ = some (.int .i64 x) ∧ b < w.heap.size := by
  obtain ⟨b, o, h1, h2⟩ := h i x e
  exact ⟨b, o, h1, h2, World.block_lt_of_cell? w _ h2⟩
theorem hitsI_sorted {X : List Int} {P : Nat → Bool} {n : Nat} (h : X = hitsI P n) {j : Nat} {x y : Int} (h1 : X[j]? = some x) (h2 : X[j + 1]? = some y) : x < y := by
  have hs : X.Pairwise (· < ·) := by
    rw [h]; unfold hitsI; rw [List.pairwise_map]; exact (hits_sorted P n).imp (by intro a b h; omega)
  obtain ⟨l1, e1⟩ := List.getElem?_eq_some_iff.1 h1
  obtain ⟨l2, e2⟩ := List.getElem?_eq_some_iff.1 h2
  have := List.pairwise_iff_getElem.1 hs j (j + 1) l1 l2 (by omega)
  rw [e1, e2] at this; exact this
/-- What the first loop keeps. -/
def LP1 (w : World) (B : Nat) (m : List (Int × Int)) (k : Nat) (wr : World) : Prop := Two B B (B + 1) [] (itemsOf m 1000 k).reverse wr ∧ Below w.heap.size w wr

set_option maxRecDepth 100000 in
set_option maxHeartbeats 8000000 in
theorem treeOrder_walk (l m : List (Int × Int)) (ts : List Int) (turn : Int) (a0 a1 a3 : Option Addr) (c0 c1 c3 : Nat) (w : World) (h0 : spansAt w a0 l) (h1 : spansAt w a1 m) (h3 : intsAt w a3 ts)
    (m0 : l.length ≤ maxLen) (m1 : m.length ≤ maxLen) (m3 : ts.length ≤ maxLen) (i0 : i64L l) (i1 : i64L m) (i2 : -9223372036854775808 ≤ turn ∧ turn < 9223372036854775808) (i3 : ∀ x ∈ ts, -9223372036854775808 ≤ x ∧ x < 9223372036854775808) :
    Calls Try.prog 5 #[.slice a0 l.length c0, .slice a1 m.length c1, .int .i64 turn, .slice a3 ts.length c3] w fun e w' => e = .returned (.bool true) ∧ Below w.heap.size w w' := by
  unfold maxLen at m0 m1 m3
  by_cases g0 : 100 < l.length
  · go_enter Try.func5, Try.ntmps5
    go_wp2_with fail
    go_ret
    exact ⟨rfl, Below.refl _ _⟩
  by_cases g1 : 100 < m.length
  · go_enter Try.func5, Try.ntmps5
    go_wp2_with fail
    go_ret
    exact ⟨rfl, Below.refl _ _⟩
  by_cases g2 : 40 < ts.length
  · go_enter Try.func5, Try.ntmps5
    go_wp2_with fail
    go_ret
    exact ⟨rfl, Below.refl _ _⟩
  have I0 := Lib.hid i0
  have I1 := Lib.hid i1
  have I3 := Lib.hid i3
  obtain ⟨i2a, i2b⟩ := i2
  clear i0 i1 i3
  obtain ⟨r, hr⟩ := pick_nat turn l.length (by omega)
  obtain ⟨s, hs⟩ := pick_nat turn m.length (by omega)
  have HR := Lib.hid hr
  have HS := Lib.hid hs
  clear hr hs
  go_enter Try.func5, Try.ntmps5
  go_wp2_with fail
  refine (found_any _).mono ?_
  rintro e w1 ⟨rfl, b1⟩
  go_wp2_with fail
  obtain ⟨W2, hW2⟩ : ∃ W2, W2 = (w1.alloc (.cells #[.pointer none, .map none] 49)).alloc (.cells #[.pointer none, .map none] 49) := ⟨_, rfl⟩
  have hT2 : Two w1.heap.size w1.heap.size (w1.heap.size + 1) [] [] W2 := by rw [hW2]; exact two_new w1
  have b2 : Below w.heap.size w W2 := by rw [hW2]; exact (b1.alloc b1.size _).alloc (by have := b1.size; simp; omega) _
  rw [← hW2]
  obtain ⟨B, hB⟩ : ∃ B, B = w1.heap.size := ⟨_, rfl⟩
  rw [← hB] at hT2 ⊢
  have hBw : w.heap.size ≤ B := by rw [hB]; exact b1.size
  clear hW2 hB b1
  go_loopw [12] (fun i wr => ∃ k : Nat, k ≤ m.length ∧ i = .int .i64 k ∧ LP1 w B m k wr) (fun i _ => m.length - (intOf i).toNat)
  case atStart => exact ⟨0, by omega, rfl, hT2, b2⟩
  case round =>
    obtain ⟨k, hk, rfl, hT, hBl⟩ := hrel
    clear hT2 b2
    by_cases hlt : k < m.length
    · obtain ⟨b, o, x, y, q1, rfl, d1, d2⟩ := spansAt_get h1 hlt
      have hb : b < w.heap.size := World.block_lt_of_cell? w _ d1
      have d1' := below_cell hBl hb d1
      have d2' := below_cell hBl hb d2
      have hxy := i64L_get I1.out q1.out
      have hF := fun W => fitSpan_any x y W hxy.1 hxy.2
      have hR := fitP_right (x, y)
      have hit := itemAt_get q1.out 1000
      have hsucc : (itemsOf m 1000 (k + 1)).reverse = itemAt m 1000 k :: (itemsOf m 1000 k).reverse := by rw [itemsOf_succ]; simp
      rw [hit] at hsucc
      generalize fitP (x, y) = fp at *
      have HSU := Lib.hid hsucc
      have HFI := Lib.hid hF
      have HT := Lib.hid hT
      have HBL := Lib.hid hBl
      have hsz := hBl.size
      clear hxy hit hsucc hF hT hBl d1 d2
      go_wp2_with fail
      refine (HFI.out _).mono ?_
      rintro e w3 ⟨rfl, b3⟩
      have T3 := HT.out.below b3
      have B3 := HBL.out.trans (b3.mono hsz)
      have HT3 := Lib.hid T3
      have HB3 := Lib.hid B3
      clear b3 T3 B3 d1' d2'
      go_wp2_with fail
      refine (two_addB HT3.out (1000 + (k : Int)) fp.1 fp.2 (by omega) (by omega) hR (by rw [List.any_reverse]; exact any_items m 1000 k _ (fun j hj => by omega)) (by rw [List.length_reverse, itemsOf_length]; omega)).mono ?_
      rintro e w4 ⟨rfl, T4, B4⟩
      have hL : LP1 w B m (k + 1) w4 := ⟨by rw [HSU.out]; exact T4, HB3.out.trans (B4.mono hBw)⟩
      have HL := Lib.hid hL
      clear T4 B4 hL
      go_wp2_with fail
      exact ⟨⟨k + 1, by omega, by go_num, HL.out⟩, by simp [intOf]; omega⟩
    · have hkm : k = m.length := by omega
      have hL2 : LP2 w B l m r 0 wr := ⟨by have := hT; rw [hkm] at this; exact this, hBl⟩
      have HL2 := Lib.hid hL2
      clear hT hBl hkm hL2
      go_wp2_with fail
      go_loopw [13] (fun i wr => ∃ k : Nat, k ≤ l.length ∧ i = .int .i64 k ∧ LP2 w B l m r k wr) (fun i _ => l.length - (intOf i).toNat)
      case atStart => exact ⟨0, by omega, rfl, HL2.out⟩
      case round =>
        obtain ⟨k, hk, rfl, hT, hBl⟩ := hrel
        clear HL2
        by_cases hlt : k < l.length
        · obtain ⟨hr1, hr2⟩ := HR.out (by omega)
          obtain ⟨j, hj⟩ : ∃ j, j = (k + r) % l.length := ⟨_, rfl⟩
          have hjl : j < l.length := by rw [hj]; exact Nat.mod_lt _ (by omega)
          have hji : ((k : Int) + (r : Int)) % (l.length : Int) = (j : Int) := by rw [hj]; push_cast <;> rfl
          have HJ := Lib.hid hj
          have hP := fun W => pick_any turn (l.length : Int) W i2a i2b (by omega) (by omega)
          rw [hr1] at hP
          obtain ⟨b, o, x, y, q1, rfl, d1, d2⟩ := spansAt_get h0 hlt
          have hb : b < w.heap.size := World.block_lt_of_cell? w _ d1
          have d1' := below_cell hBl hb d1
          have d2' := below_cell hBl hb d2
          have HP := Lib.hid hP
          have HT := Lib.hid hT
          have HBL := Lib.hid hBl
          have HJI := Lib.hid hji
          have hsz := hBl.size
          clear hj hP hr1 hT hBl hji
          go_wp2_with fail
          refine (HP.out _).mono ?_
          rintro e w3 ⟨rfl, rfl⟩
          go_wp2_with fail
          rw [HJI.out]
          obtain ⟨b', o', x', y', q1', e', d3, d4⟩ := spansAt_get h0 hjl
          cases e'
          have d3' := below_cell HBL.out hb d3
          have d4' := below_cell HBL.out hb d4
          have hxy := i64L_get I0.out q1.out
          have hxy' := i64L_get I0.out q1'.out
          have hF := fun W => fitSpan_any x y W hxy.1 hxy.2
          have hF' := fun W => fitSpan_any x' y' W hxy'.1 hxy'.2
          have hR := fitP_right (x, y)
          have hR' := fitP_right (x', y')
          have hit := itemAt_get q1.out 0
          have hit' := itemAt_get q1'.out 0
          rw [Int.zero_add] at hit hit'
          have hsu : (itemsOf l 0 (k + 1)).reverse = itemAt l 0 k :: (itemsOf l 0 k).reverse := by rw [itemsOf_succ]; simp
          have hsu' : (rotOf l 0 r (k + 1)).reverse = itemAt l 0 j :: (rotOf l 0 r k).reverse := by rw [rotOf_succ, ← HJ.out]; simp
          rw [hit] at hsu
          rw [hit'] at hsu'
          generalize fitP (x, y) = fp at *
          generalize fitP (x', y') = fp' at *
          have HSU := Lib.hid hsu
          have HSU' := Lib.hid hsu'
          have HFI := Lib.hid hF
          have HFI' := Lib.hid hF'
          clear hxy hxy' hit hit' hsu hsu' hF hF' d1 d2 d3 d4
          refine (HFI.out _).mono ?_
          rintro e w3 ⟨rfl, b3⟩
          have T3 := HT.out.below b3
          have B3 := HBL.out.trans (b3.mono hsz)
          have d3 := below_cell (b3.mono hsz) hb d3'
          have d4 := below_cell (b3.mono hsz) hb d4'
          have HT3 := Lib.hid T3
          have HB3 := Lib.hid B3
          clear b3 T3 B3 d1' d2' d3' d4'
          go_wp2_with fail
          refine (two_addA HT3.out (k : Int) fp.1 fp.2 (by omega) (by omega) hR (by rw [List.any_reverse]; exact any_items l 0 k _ (fun j hj => by omega)) (by rw [List.length_reverse, itemsOf_length]; omega)).mono ?_
          rintro e w4 ⟨rfl, T4, B4⟩
          have d3' := below_cell (B4.mono hBw) hb d3
          have d4' := below_cell (B4.mono hBw) hb d4
          have HB4 := Lib.hid (HB3.out.trans (B4.mono hBw))
          have HT4 := Lib.hid T4
          have hs4 := HB4.out.size
          clear T4 B4 d3 d4
          go_wp2_with fail
          refine (HFI'.out _).mono ?_
          rintro e w5 ⟨rfl, b5⟩
          have HT5 := Lib.hid (HT4.out.below b5)
          have HB5 := Lib.hid (HB4.out.trans (b5.mono hs4))
          clear b5 d3' d4'
          go_wp2_with fail
          refine (two_addB HT5.out (j : Int) fp'.1 fp'.2 (by omega) (by omega) hR' ?_ (by rw [List.length_append, List.length_reverse, List.length_reverse, itemsOf_length, rotOf_length]; omega)).mono ?_
          · rw [List.any_append, List.any_reverse, List.any_reverse, any_rot l 0 r k _ (fun i hi e => ?_), any_items m 1000 m.length _ (fun i hi => by omega)]
            · rfl
            · rw [HJ.out] at e
              have := rot_inj hr2 (by omega) hlt (show (i + r) % l.length = (k + r) % l.length by omega)
              omega
          rintro e w6 ⟨rfl, T6, B6⟩
          have hL : LP2 w B l m r (k + 1) w6 := ⟨by rw [HSU.out, HSU'.out]; exact T6, HB5.out.trans (B6.mono hBw)⟩
          have HL := Lib.hid hL
          clear T6 B6 hL
          go_wp2_with fail
          exact ⟨⟨k + 1, by omega, by go_num, HL.out⟩, by simp [intOf]; omega⟩
        · have hkl : k = l.length := by omega
          have hL3 : LP3 w B l m r s 0 wr := ⟨(by have := hT; rw [hkl] at this; exact this.permB (List.Perm.append_left _ (rest_start m 1000 s (fun h => (HS.out h).2)))), hBl⟩
          have HL3 := Lib.hid hL3
          clear hT hBl hkl hL3
          go_wp2_with fail
          go_loopw [15] (fun i wr => ∃ k : Nat, k ≤ m.length ∧ i = .int .i64 k ∧ LP3 w B l m r s k wr) (fun i _ => m.length - (intOf i).toNat)
          case atStart => exact ⟨0, by omega, rfl, HL3.out⟩
          case round =>
            obtain ⟨k, hk, rfl, hT, hBl⟩ := hrel
            clear HL3
            by_cases hlt : k < m.length
            · obtain ⟨hs1, hs2⟩ := HS.out (by omega)
              obtain ⟨j, hj⟩ : ∃ j, j = (k + s) % m.length := ⟨_, rfl⟩
              have hjl : j < m.length := by rw [hj]; exact Nat.mod_lt _ (by omega)
              have hji : ((k : Int) + (s : Int)) % (m.length : Int) = (j : Int) := by rw [hj]; push_cast <;> rfl
              have hP := fun W => pick_any turn (m.length : Int) W i2a i2b (by omega) (by omega)
              rw [hs1] at hP
              have hT' : Two B B (B + 1) (itemsOf l 0 l.length).reverse (itemAt m 1000 j :: ((rotOf l 0 r l.length).reverse ++ restOf m 1000 s (k + 1))) wr := hT.permB (by rw [restOf_succ m 1000 s k hlt, ← hj]; exact List.perm_middle)
              have HP := Lib.hid hP
              have HT := Lib.hid hT'
              have HBL := Lib.hid hBl
              have HJI := Lib.hid hji
              clear hj hP hs1 hT hT' hBl hji
              go_wp2_with fail
              refine (HP.out _).mono ?_
              rintro e w3 ⟨rfl, rfl⟩
              go_wp2_with fail
              rw [HJI.out, show wrap64 (1000 + (j : Int)) = 1000 + (j : Int) from by unfold wrap64; omega]
              refine (two_dropB (1000 + (j : Int)) (itemAt m 1000 j).1 (itemAt m 1000 j).2.2 ⟨by omega, by omega⟩ HT.out (by rw [List.length_append, List.length_reverse, rotOf_length, restOf_length]; omega)).mono ?_
              rintro e w4 ⟨rfl, T4, B4⟩
              have HL := Lib.hid (show LP3 w B l m r s (k + 1) w4 from ⟨T4, HBL.out.trans (B4.mono hBw)⟩)
              clear T4 B4
              go_wp2_with fail
              exact ⟨⟨k + 1, by omega, by go_num, HL.out⟩, by simp [intOf]; omega⟩
            · have hkm : k = m.length := by omega
              have hT4 : Two B B (B + 1) (itemsOf l 0 l.length) (itemsOf l 0 l.length) wr := (hT.permA (List.reverse_perm _)).permB (by rw [hkm]; exact rot_end l m 0 1000 r s (fun h => (HR.out h).2))
              have hmA : ∀ W, Two B B (B + 1) (itemsOf l 0 l.length) (itemsOf l 0 l.length) W → Calls Try.prog 30 #[.pointer (some ⟨B, 0, none⟩)] W fun e w' => e = .returned (.int .i64 (l.length : Int)) ∧ W = w' := fun W h => by have := two_manyA h; rw [itemsOf_length] at this; exact this
              have hmB : ∀ W, Two B B (B + 1) (itemsOf l 0 l.length) (itemsOf l 0 l.length) W → Calls Try.prog 30 #[.pointer (some ⟨B + 1, 0, none⟩)] W fun e w' => e = .returned (.int .i64 (l.length : Int)) ∧ W = w' := fun W h => by have := two_manyB h; rw [itemsOf_length] at this; exact this
              have HT4 := Lib.hid hT4
              have HBL := Lib.hid hBl
              have HMA := Lib.hid (hmA _ hT4)
              have HMB := Lib.hid (hmB _ hT4)
              clear hT hT4 hBl hkm hmA hmB
              go_wp2_with fail
              refine HMA.out.mono ?_
              rintro e w3 ⟨rfl, rfl⟩
              go_wp2_with fail
              refine HMB.out.mono ?_
              rintro e w3 ⟨rfl, rfl⟩
              clear HMA HMB
              go_wp2_with fail
              have HL4 := Lib.hid (show LP4 w B l wr from ⟨HT4.out, HBL.out⟩)
              clear HT4 HBL
              go_loopw [16] (fun i wr => ∃ k : Nat, k ≤ ts.length ∧ i = .int .i64 k ∧ LP4 w B l wr) (fun i _ => ts.length - (intOf i).toNat)
              case atStart => exact ⟨0, by omega, rfl, HL4.out⟩
              case round =>
                obtain ⟨k, hk, rfl, hT, hBl⟩ := hrel
                clear HL4
                by_cases hlt : k < ts.length
                · obtain ⟨b, o, q, q1, rfl, d1⟩ := intsAt_get h3 hlt
                  have hb : b < w.heap.size := World.block_lt_of_cell? w _ d1
                  have d1' := below_cell hBl hb d1
                  have hq := I3.out q (List.mem_of_getElem? q1.out)
                  have hP := fun W => pick_any q 260 W hq.1 hq.2 (by decide) (by decide)
                  have hp := pickI_lt q 260 (by decide) (by decide)
                  generalize pickI q 260 = p at *
                  obtain ⟨hp1, hp2⟩ := hp
                  obtain ⟨X, hX⟩ : ∃ X, X = hitsI (hasAt l p (p + 1)) l.length := ⟨_, rfl⟩
                  obtain ⟨U, hU⟩ : ∃ U, U = hitsI (hasAt l p (p + 9)) l.length := ⟨_, rfl⟩
                  have eX : atL (itemsOf l 0 l.length) p = X := by rw [hX]; exact at_items (.refl _) p (by omega) (by omega)
                  have eU : meetsL (itemsOf l 0 l.length) p (p + 9) = U := by rw [hU]; exact meets_items (.refl _) p (p + 9) (by unfold rightB; simp; omega)
                  have hlen : (itemsOf l 0 l.length).length < 4294967296 := by rw [itemsOf_length]; omega
                  have cA : ∀ W, Two B B (B + 1) (itemsOf l 0 l.length) (itemsOf l 0 l.length) W → Calls Try.prog 31 #[.pointer (some ⟨B, 0, none⟩), .int .i64 p] W (Ints W X) := fun W h => by rw [← eX]; exact two_atA h p hlen
                  have cB : ∀ W, Two B B (B + 1) (itemsOf l 0 l.length) (itemsOf l 0 l.length) W → Calls Try.prog 31 #[.pointer (some ⟨B + 1, 0, none⟩), .int .i64 p] W (Ints W X) := fun W h => by rw [← eX]; exact two_atB h p hlen
                  have cU : ∀ W, Two B B (B + 1) (itemsOf l 0 l.length) (itemsOf l 0 l.length) W → Calls Try.prog 32 #[.pointer (some ⟨B, 0, none⟩), .agg #[.int .i64 p, .int .i64 (p + 9)]] W (Ints W U) := fun W h => by rw [← eU]; exact two_meetsA h p (p + 9) hlen
                  have cV : ∀ W, Two B B (B + 1) (itemsOf l 0 l.length) (itemsOf l 0 l.length) W → Calls Try.prog 32 #[.pointer (some ⟨B + 1, 0, none⟩), .agg #[.int .i64 p, .int .i64 (p + 9)]] W (Ints W U) := fun W h => by rw [← eU]; exact two_meetsB h p (p + 9) hlen
                  have lX : X.length ≤ l.length := by rw [hX, hitsI_length]; exact hits_le _ _
                  have lU : U.length ≤ l.length := by rw [hU, hitsI_length]; exact hits_le _ _
                  have HX := Lib.hid hX
                  have HU := Lib.hid hU
                  have CA := Lib.hid cA
                  have CB := Lib.hid cB
                  have CU := Lib.hid cU
                  have CV := Lib.hid cV
                  have HP := Lib.hid hP
                  have HT := Lib.hid hT
                  have HBL := Lib.hid hBl
                  clear hq hP hX hU eX eU hlen cA cB cU cV hT hBl d1
                  go_wp2_with fail
                  refine (HP.out _).mono ?_
                  rintro e w3 ⟨rfl, rfl⟩
                  clear d1' HP
                  go_wp2_with fail
                  refine (CA.out _ HT.out).mono ?_
                  rintro e w4 ⟨ax, cx, rfl, ix, b4⟩
                  have HT4 := Lib.hid (HT.out.below b4)
                  have HB4 := Lib.hid (below_step HBL.out b4)
                  clear b4 HT HBL CA
                  go_wp2_with fail
                  refine (CB.out _ HT4.out).mono ?_
                  rintro e w5 ⟨ay, cy, rfl, iy, b5⟩
                  have ix5 := ix.below b5
                  have HT5 := Lib.hid (HT4.out.below b5)
                  have HB5 := Lib.hid (below_step HB4.out b5)
                  clear b5 HT4 HB4 CB ix
                  go_wp2_with fail
                  refine (CU.out _ HT5.out).mono ?_
                  rintro e w6 ⟨au, cu, rfl, iu, b6⟩
                  have ix6 := ix5.below b6
                  have iy6 := iy.below b6
                  have HT6 := Lib.hid (HT5.out.below b6)
                  have HB6 := Lib.hid (below_step HB5.out b6)
                  clear b6 HT5 HB5 CU ix5 iy
                  go_wp2_with fail
                  refine (CV.out _ HT6.out).mono ?_
                  rintro e w7 ⟨av, cv, rfl, iv, b7⟩
                  have ix7 := ix6.below b7
                  have iy7 := iy6.below b7
                  have iu7 := iu.below b7
                  have HT7 := Lib.hid (HT6.out.below b7)
                  have HB7 := Lib.hid (below_step HB6.out b7)
                  have hs7 := HB7.out.size
                  clear b7 HT6 HB6 CV ix6 iy6 iu
                  go_wp2_with fail
                  go_loopw [22, 23] (fun cv kv wr => LP5 (hasAt l p (p + 1)) w7 l.length cv kv wr) (fun _ kv _ => l.length - (intOf kv).toNat)
                  case atStart => exact ⟨0, 0, by omega, rfl, rfl, rfl, Below.refl _ _⟩
                  case round =>
                    obtain ⟨j, c, hj, hc, rfl, rfl, hBl⟩ := hrel
                    have hsz := hBl.size
                    by_cases hlt5 : j < l.length
                    · obtain ⟨b', o', x, y, q5, rfl, e1, e2⟩ := spansAt_get h0 hlt5
                      have hb' : b' < w.heap.size := World.block_lt_of_cell? w _ e1
                      have e1 := below_cell HB7.out hb' e1
                      have e2 := below_cell HB7.out hb' e2
                      have e1 := below_cell hBl (by omega) e1
                      have e2 := below_cell hBl (by omega) e2
                      have hxy := i64L_get I0.out q5.out
                      have hF := fun W => fitSpan_any x y W hxy.1 hxy.2
                      have hPj := hasAt_get q5.out p
                      generalize fitP (x, y) = fp at *
                      have hH := fun W => has_any fp.1 fp.2 p W
                      rw [← hPj] at hH
                      have HFI := Lib.hid hF
                      have HBL := Lib.hid hBl
                      cases hv : hasAt l p (p + 1) j
                      · rw [hv] at hH
                        have HHI := Lib.hid hH
                        have HC := Lib.hid (show c = (hits (hasAt l p (p + 1)) (j + 1)).length from by rw [hc.out, hits_succ, hv]; simp)
                        clear hxy hF hPj hH hv hBl
                        go_wp2_with fail
                        refine (HFI.out _).mono ?_
                        rintro e w8 ⟨rfl, b8⟩
                        have B8 := Lib.hid (HBL.out.trans (b8.mono hsz))
                        have hs8 := b8.size
                        clear b8 e1 e2
                        go_wp2_with fail
                        refine (HHI.out _).mono ?_
                        rintro e w9 ⟨rfl, b9⟩
                        have B9 := Lib.hid (B8.out.trans (b9.mono (by omega)))
                        clear b9
                        go_wp2_with fail
                        exact ⟨⟨j + 1, c, by omega, HC, by go_num, rfl, B9.out⟩, by simp [intOf]; omega⟩
                      · rw [hv] at hH
                        have HHI := Lib.hid hH
                        have hX := HX.out
                        have hg : X[c]? = some (j : Int) := by rw [hX, hc.out]; exact hitsI_get _ _ _ hlt5 hv
                        have hcl : c < X.length := (List.getElem?_eq_some_iff.1 hg).1
                        obtain ⟨bx, ox, rfl, gx, hbx⟩ := intsAt_at ix7 hg
                        obtain ⟨by', oy, rfl, gy, hby⟩ := intsAt_at iy7 hg
                        have HC := Lib.hid (show c + 1 = (hits (hasAt l p (p + 1)) (j + 1)).length from by rw [hc.out, hits_succ, hv]; simp)
                        have hjj : ((j : Int) != (j : Int)) = false := by simp
                        clear hxy hF hPj hH hv hBl hX hg
                        go_wp2_with fail
                        refine (HFI.out _).mono ?_
                        rintro e w8 ⟨rfl, b8⟩
                        have B8 := Lib.hid (HBL.out.trans (b8.mono hsz))
                        have hs8 := b8.size
                        clear b8 e1 e2
                        go_wp2_with fail
                        refine (HHI.out _).mono ?_
                        rintro e w9 ⟨rfl, b9⟩
                        have B9 := Lib.hid (B8.out.trans (b9.mono (by omega)))
                        have gx := below_cell B9.out hbx gx
                        have gy := below_cell B9.out hby gy
                        clear b9
                        go_wp2_with fail
                        exact ⟨⟨j + 1, c + 1, by omega, HC, by go_num, by go_num, B9.out⟩, by simp [intOf]; omega⟩
                    · have hjl : j = l.length := by omega
                      have hcX : c = X.length := by rw [hc.out, hjl, HX.out, hitsI_length]
                      have hcn : ((c : Int) != (X.length : Int)) = false := by rw [hcX]; simp
                      have HBL := Lib.hid hBl
                      clear hjl hcX hBl
                      go_wp2_with fail
                      clear hcn
                      go_loopw [24] (fun jv wr => ∃ j : Nat, j ≤ U.length ∧ jv = .int .i64 j ∧ Below w7.heap.size w7 wr) (fun jv _ => U.length - (intOf jv).toNat)
                      case atStart => exact ⟨0, by omega, rfl, HBL.out⟩
                      case round =>
                        obtain ⟨j, hj, rfl, hBl⟩ := hrel
                        have hsz := hBl.size
                        by_cases hlt6 : j < U.length
                        · obtain ⟨z, hz⟩ : ∃ z, U[j]? = some z := ⟨_, List.getElem?_eq_getElem hlt6⟩
                          obtain ⟨bu, ou, rfl, gu, hbu⟩ := intsAt_at iu7 hz
                          obtain ⟨bv, ov, rfl, gv, hbv⟩ := intsAt_at iv hz
                          have gu' := below_cell hBl hbu gu
                          have gv' := below_cell hBl hbv gv
                          have hzz : (z != z) = false := by simp
                          have HZ := Lib.hid hz
                          have HBL := Lib.hid hBl
                          clear gu gv hz hBl
                          by_cases hj0 : j = 0
                          · have hd : decide (0 < j) = false := by simp; omega
                            have hdi : decide ((0 : Int) < (j : Int)) = false := by simp; omega
                            clear hj0
                            go_wp2_with fail
                            go_quiet (fail)
                            go_wp2_with fail
                            exact ⟨⟨j + 1, by omega, by go_num, below_drewN HBL.out _⟩, by simp [intOf]; omega⟩
                          · obtain ⟨i, hi⟩ : ∃ i, i = j - 1 := ⟨j - 1, rfl⟩
                            obtain ⟨z', hz'⟩ : ∃ z', U[i]? = some z' := ⟨_, List.getElem?_eq_getElem (by omega)⟩
                            have hlt7 : z' < z := hitsI_sorted HU.out hz' (by rw [show i + 1 = j by omega]; exact HZ.out)
                            obtain ⟨bu', ou', eu, gu, hbu'⟩ := intsAt_at iu7 hz'
                            cases eu
                            have gu2 := below_cell HBL.out hbu gu
                            have hn : 0 < j := by omega
                            have hni : (0 : Int) < (j : Int) := by omega
                            have hni1 : (0 : Int) ≤ (j : Int) - 1 := by omega
                            have hk1 : (j : Int) - 1 = (i : Int) := by omega
                            have hil : i < U.length := by omega
                            have hwi : IntKind.i64.wrap (i : Int) = (i : Int) := by rw [IntKind.wrap_i64]; omega
                            have hle : decide (z ≤ z') = false := by simp; omega
                            clear hj0 hz' gu hi
                            go_wp2_with fail
                            go_quiet (fail)
                            go_wp2_with fail
                            exact ⟨⟨j + 1, by omega, by go_num, below_drewN HBL.out _⟩, by simp [intOf]; omega⟩
                        · have HL4 := Lib.hid (show LP4 w B l wr from ⟨HT7.out.below hBl, below_step HB7.out hBl⟩)
                          clear hBl
                          go_wp2_with fail
                          exact ⟨⟨k + 1, by omega, by go_num, HL4.out⟩, by simp [intOf]; omega⟩
                · go_wp2_with fail
                  go_ret
                  exact ⟨rfl, hBl⟩
end Go.Proofs.Ytcdgochkcfogiaa
