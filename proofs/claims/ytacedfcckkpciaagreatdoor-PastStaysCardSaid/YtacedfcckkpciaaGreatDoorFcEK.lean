/- Numerals joined with blanks: the document's Words. The condition: the library's table of powers of ten is as its own text lays it. -/
import Derived.Shelf.Strings.SlTrimAscii
import Derived.Lib.AppendIntMem
import Derived.Lib.ItoaLen
import Derived.Test.YtacedfcckkpciaaGreatDoorSpanCK
import Derived.Test.YtacedfcckkpciaaGreatDoorFactNK
import Derived.Test.YtacedfcckkpciaaGreatDoorShelfK
import Derived.Test.YtacedfcckkpciaaGreatDoorRowK
namespace Go.Proofs.YtacedfcckkpciaaGreatDoor
open Go.RowKit

theorem size_toList (s : ByteArray) : s.data.toList.length = s.size := Array.length_toList
theorem empty_eq (s : ByteArray) : s.toList.isEmpty = decide (s.size = 0) := by
  rw [ByteArray.toList_eq, ← size_toList]
  cases s.data.toList <;> simp
theorem empty_true {s : ByteArray} (h : s.size = 0) : s.toList.isEmpty = true := by rw [empty_eq]; simpa using h
theorem empty_false {s : ByteArray} (h : ¬ s.size = 0) : s.toList.isEmpty = false := by rw [empty_eq]; simpa using h
theorem dash_no {s : ByteArray} (h : ¬ s.size = 0) : (⟨(dashL s).toArray⟩ : ByteArray) = s := by unfold dashL; rw [if_neg h]
theorem dash_yes {s : ByteArray} (h : s.size = 0) : dashL s = [45] := by unfold dashL; rw [if_pos h]

theorem dashF_any (s : ByteArray) (w : World) : Calls Tryz.prog 62 #[.string s] w fun e w' => e = .returned (.string ⟨(dashL s).toArray⟩) ∧ w' = w := by
  by_cases h : s.size = 0
  · have h1 := empty_true h
    rw [dash_yes h]
    go_enter Tryz.func62, Tryz.ntmps62
    go_wp2
    go_ret
    exact ⟨rfl, rfl⟩
  · have h1 := empty_false h
    rw [dash_no h]
    go_enter Tryz.func62, Tryz.ntmps62
    go_wp2
    go_ret
    exact ⟨rfl, rfl⟩
theorem dashR_any (s : ByteArray) (w : World) : Calls Tryz.prog 85 #[.string s] w fun e w' => e = .returned (.string ⟨(dashL s).toArray⟩) ∧ w' = w := by
  by_cases h : s.size = 0
  · have h1 := empty_true h
    rw [dash_yes h]
    go_enter Tryz.func85, Tryz.ntmps85
    go_wp2
    go_ret
    exact ⟨rfl, rfl⟩
  · have h1 := empty_false h
    rw [dash_no h]
    go_enter Tryz.func85, Tryz.ntmps85
    go_wp2
    go_ret
    exact ⟨rfl, rfl⟩
theorem sign_any (b : Bool) (w : World) : Calls Tryz.prog 81 #[.bool b] w fun e w' => e = .returned (.int .i64 (sgn b)) ∧ w' = w := by
  go_enter Tryz.func81, Tryz.ntmps81
  cases b
  all_goals
    go_wp2
    go_ret
    exact ⟨rfl, rfl⟩
theorem key1_any (n : Int) (w : World) : Calls Tryz.prog 56 #[.int .i64 n] w fun e w' => e = .returned (.bool (nodeB n)) ∧ w' = w := by
  by_cases h1 : 0 ≤ n
  · by_cases h2 : n ≤ 1048576
    · go_enter Tryz.func56, Tryz.ntmps56
      go_wp2
      go_ret
      exact ⟨ret_bool (decide_eq_true (by omega)).symm, rfl⟩
    · go_enter Tryz.func56, Tryz.ntmps56
      go_wp2
      go_ret
      exact ⟨ret_bool (decide_eq_false (by omega)).symm, rfl⟩
  · go_enter Tryz.func56, Tryz.ntmps56
    go_wp2
    go_ret
    exact ⟨ret_bool (decide_eq_false (by omega)).symm, rfl⟩
theorem inB_node (n : Int) : inB n 0 1048576 = nodeB n := rfl

/-! ### Words -/
theorem take_snocB (s : ByteArray) (k : Nat) (h : k < s.size) : s.data.toList.take (k + 1) = s.data.toList.take k ++ [s[k]] := by
  rw [List.take_succ_eq_append_getElem (by rw [size_toList]; exact h)]; rfl
theorem isW_get (s : ByteArray) (k : Nat) (h : k < s.size) : isW s[k] = (decide (97 ≤ (s[k].toNat : Int)) && decide ((s[k].toNat : Int) ≤ 122) || decide (48 ≤ (s[k].toNat : Int)) && decide ((s[k].toNat : Int) ≤ 57)) := by
  unfold isW
  generalize s[k].toNat = n
  rw [Bool.eq_iff_iff]; simp; omega
theorem all_take (s : ByteArray) (k : Nat) (h : k < s.size) : (s.data.toList.take (k + 1)).all isW = ((s.data.toList.take k).all isW && isW s[k]) := by
  rw [take_snocB s k h, List.all_append]; simp
theorem all_false (s : ByteArray) (k : Nat) (h : k < s.size) (hw : isW s[k] = false) : s.data.toList.all isW = false := by
  rw [List.all_eq_false]
  exact ⟨s[k], Array.mem_toList_iff.2 (Array.getElem_mem _), by simp [hw]⟩
set_option maxHeartbeats 1000000 in
theorem rword_any (s : ByteArray) (w : World) (hs : s.size ≤ maxLen) : Calls Tryz.prog 123 #[.string s] w fun e w' => e = .returned (.bool (wordB s)) ∧ w' = w := by
  unfold maxLen at hs
  go_enter Tryz.func123, Tryz.ntmps123
  go_wp2
  go_loop [7] (fun i => ∃ k : Nat, k ≤ s.size ∧ i = .int .i64 k ∧ Hid ((s.data.toList.take k).all isW = true)) (fun i => s.size - (intOf i).toNat)
  case atStart => exact ⟨0, Nat.zero_le _, rfl, Lib.hid (by simp)⟩
  case round =>
    obtain ⟨k, hk, rfl, ha⟩ := hrel
    by_cases hlt : k < s.size
    · have hW := Lib.hid (isW_get s k hlt)
      have hA := Lib.hid (all_take s k hlt)
      have hF := Lib.hid (all_false s k hlt)
      have hc : (97 ≤ (s[k].toNat : Int) ∧ (s[k].toNat : Int) ≤ 122) ∨ 122 < (s[k].toNat : Int) ∧ 57 < (s[k].toNat : Int) ∧ 97 ≤ (s[k].toNat : Int) ∧ 48 ≤ (s[k].toNat : Int) ∨ ((s[k].toNat : Int) < 97 ∧ 48 ≤ (s[k].toNat : Int) ∧ (s[k].toNat : Int) ≤ 57) ∨ ((s[k].toNat : Int) < 97 ∧ (s[k].toNat : Int) < 48) ∨ ((s[k].toNat : Int) < 97 ∧ 48 ≤ (s[k].toNat : Int) ∧ 57 < (s[k].toNat : Int)) := by omega
      rcases hc with ⟨c1, c2⟩ | ⟨c1, c2, c3, c4⟩ | ⟨c1, c2, c3⟩ | ⟨c1, c2⟩ | ⟨c1, c2, c3⟩
      · go_wp2
        go_round
        case rel => exact ⟨k + 1, by omega, by go_num, Lib.hid (by rw [hA.out, ha.out, hW.out]; simp; omega)⟩
        case measure => simp [intOf]; omega
      · have d1 : decide ((s[k].toNat : Int) ≤ 122) = false := decide_eq_false (by omega)
        have d2 : decide ((s[k].toNat : Int) ≤ 57) = false := decide_eq_false (by omega)
        go_wp2
        go_ret
        exact ⟨ret_bool (by unfold wordB; rw [hF.out (by rw [hW.out]; simp; omega), Bool.and_false]), rfl⟩
      · go_wp2
        go_round
        case rel => exact ⟨k + 1, by omega, by go_num, Lib.hid (by rw [hA.out, ha.out, hW.out]; simp; omega)⟩
        case measure => simp [intOf]; omega
      · go_wp2
        go_ret
        exact ⟨ret_bool (by unfold wordB; rw [hF.out (by rw [hW.out]; simp; omega), Bool.and_false]), rfl⟩
      · have d2 : decide ((s[k].toNat : Int) ≤ 57) = false := decide_eq_false (by omega)
        go_wp2
        go_ret
        exact ⟨ret_bool (by unfold wordB; rw [hF.out (by rw [hW.out]; simp; omega), Bool.and_false]), rfl⟩
    · have hall : Hid (s.data.toList.all isW = true) := by
        have h2 : s.data.toList.take k = s.data.toList := List.take_of_length_le (by rw [size_toList]; omega)
        have := ha.out
        rw [h2] at this
        exact Lib.hid this
      go_wp2_with (go_at_call 48; refine (in_any _ _ _ _).mono ?_; rintro e w' ⟨rfl, rfl⟩)
      go_ret
      refine ⟨ret_bool ?_, rfl⟩
      unfold wordB inB
      rw [hall.out, Bool.and_true, Bool.eq_iff_iff]
      simp; omega
theorem letters_str : (⟨#[97, 98, 99, 100, 101, 102, 103, 104, 105, 106, 107, 108, 109, 110, 111, 112, 113, 114, 115, 116, 117, 118, 119, 120, 121, 122, 48, 49, 50, 51, 52, 53, 54, 55, 56, 57]⟩ : ByteArray).data.toList = letters := rfl
theorem trim_any (s : ByteArray) (w : World) (hs : s.size ≤ maxLen) : Calls Tryz.prog 97 #[.string s, .string ⟨#[97, 98, 99, 100, 101, 102, 103, 104, 105, 106, 107, 108, 109, 110, 111, 112, 113, 114, 115, 116, 117, 118, 119, 120, 121, 122, 48, 49, 50, 51, 52, 53, 54, 55, 56, 57]⟩] w
    fun e w' => (∃ t : ByteArray, e = .returned (.string t) ∧ t.toList.isEmpty = s.data.toList.all isW) ∧ Below w.heap.size w w' :=
  (Any.strings_Trim_laid Tryz.lays160 (by kernel_rfl) s _ w (by unfold maxLen at hs; omega) (by decide) (ascii_of_all (by decide))).mono fun e w' ⟨h1, h2⟩ => ⟨⟨_, h1, by
    rw [letters_str, ByteArray.toList_eq, Bool.eq_iff_iff, ← trim_word]
    show (Lib.trimS s.data.toList letters).isEmpty = true ↔ _
    rw [List.isEmpty_iff]⟩, h2⟩
theorem fword_any (s : ByteArray) (w : World) (hs : s.size ≤ maxLen) : Calls Tryz.prog 57 #[.string s] w fun e w' => e = .returned (.bool (wordB s)) ∧ Below w.heap.size w w' := by
  have hT := trim_any s w hs
  unfold maxLen at hs
  by_cases h1 : 1 ≤ s.size
  · by_cases h2 : s.size ≤ 12
    · have e0 : wordB s = s.data.toList.all isW := by unfold wordB; simp [h1, h2]
      rw [e0]
      clear e0
      have HT := Lib.hid hT
      clear hT
      go_enter Tryz.func57, Tryz.ntmps57
      go_wp2_with (go_at_call 97; refine HT.out.mono ?_; rintro e w' ⟨⟨t, rfl, ht⟩, hb⟩; have Ht := Lib.hid ht; clear ht)
      go_ret
      exact ⟨ret_bool Ht.out, hb⟩
    · go_enter Tryz.func57, Tryz.ntmps57
      go_wp2
      go_ret
      exact ⟨ret_bool (by unfold wordB; simp [h2]), Below.refl _ _⟩
  · go_enter Tryz.func57, Tryz.ntmps57
    go_wp2
    go_ret
    exact ⟨ret_bool (by unfold wordB; simp [h1]), Below.refl _ _⟩
end Go.Proofs.YtacedfcckkpciaaGreatDoor

namespace Go.Proofs.YtacedfcckkpciaaGreatDoor
open Go.RowKit

theorem keyB_1 (a b : Int) (s : ByteArray) : keyB ⟨1, a, s, b⟩ = (nodeB a && (decide (s.size = 0) && decide (b = 0))) := rfl
theorem keyB_2 (a b : Int) (s : ByteArray) : keyB ⟨2, a, s, b⟩ = (nodeB a && (nodeB b && wordB s)) := rfl
theorem keyB_3 (a b : Int) (s : ByteArray) : keyB ⟨3, a, s, b⟩ = (nodeB a && (wordB s && decide (b = 0))) := rfl
theorem keyB_else (k a b : Int) (s : ByteArray) (h1 : k ≠ 1) (h2 : k ≠ 2) (h3 : k ≠ 3) : keyB ⟨k, a, s, b⟩ = false := by
  unfold keyB; simp [h1, h2, h3]
theorem below_alloc2 {w w' : World} (o : Obj) (h : Below (w.alloc o).heap.size (w.alloc o) w') : Below w.heap.size w w' := below_over h

set_option maxHeartbeats 2000000 in
theorem fkey_any (k a b : Int) (s : ByteArray) (w : World) (hs : s.size ≤ maxLen) :
    Calls Tryz.prog 29 #[.agg #[.int .i64 k, .int .i64 a, .string s, .int .i64 b]] w fun e w' => e = .returned (.bool (keyB ⟨k, a, s, b⟩)) ∧ Below w.heap.size w w' := by
  have hs0 := hs
  unfold maxLen at hs
  have bA : Below w.heap.size w (w.alloc (.cells #[.int .i64 k, .int .i64 a, .string s, .int .i64 b] 29)) := (Below.refl _ w).alloc (Nat.le_refl _) _
  by_cases k1 : k = 1
  · subst k1
    rw [keyB_1]
    cases hn : nodeB a
    · go_enter Tryz.func29, Tryz.ntmps29
      go_wp2_with (go_at_call 56; refine (key1_any _ _).mono ?_; rintro e w' ⟨rfl, rfl⟩)
      go_ret
      exact ⟨rfl, bA⟩
    · by_cases h0 : s.size = 0
      · have e1 := empty_true h0
        rw [h0]
        by_cases hb : b = 0
        · subst hb
          go_enter Tryz.func29, Tryz.ntmps29
          go_wp2_with (go_at_call 56; refine (key1_any _ _).mono ?_; rintro e w' ⟨rfl, rfl⟩)
          go_ret
          exact ⟨rfl, bA⟩
        · have hb1 : ((b : Int) == 0) = false := by simpa using hb
          have hb2 : decide (b = 0) = false := decide_eq_false hb
          go_enter Tryz.func29, Tryz.ntmps29
          go_wp2_with (go_at_call 56; refine (key1_any _ _).mono ?_; rintro e w' ⟨rfl, rfl⟩)
          go_ret
          exact ⟨by rw [hb2]; rfl, bA⟩
      · have e1 := empty_false h0
        have h2 : decide (s.size = 0) = false := decide_eq_false h0
        rw [h2]
        clear h2
        go_enter Tryz.func29, Tryz.ntmps29
        go_wp2_with (go_at_call 56; refine (key1_any _ _).mono ?_; rintro e w' ⟨rfl, rfl⟩)
        go_ret
        exact ⟨rfl, bA⟩
  · have n1 : ((k : Int) == 1) = false := by simpa using k1
    by_cases k2 : k = 2
    · subst k2
      rw [keyB_2]
      cases hn : nodeB a
      · go_enter Tryz.func29, Tryz.ntmps29
        go_wp2_with (go_at_call 56; refine (key1_any _ _).mono ?_; rintro e w' ⟨rfl, rfl⟩)
        go_ret
        exact ⟨rfl, bA⟩
      · cases hm : nodeB b
        · go_enter Tryz.func29, Tryz.ntmps29
          go_wp2_with (go_at_call 56; refine (key1_any _ _).mono ?_; rintro e w' ⟨rfl, rfl⟩)
          go_ret
          exact ⟨rfl, bA⟩
        · go_enter Tryz.func29, Tryz.ntmps29
          go_wp2_with (first | (go_at_call 56; refine (key1_any _ _).mono ?_; rintro e w' ⟨rfl, rfl⟩) | (go_at_call 57; refine (fword_any _ _ hs0).mono ?_; rintro e w' ⟨rfl, hb⟩))
          go_ret
          exact ⟨rfl, below_over hb⟩
    · have n2 : ((k : Int) == 2) = false := by simpa using k2
      by_cases k3 : k = 3
      · subst k3
        rw [keyB_3]
        cases hn : nodeB a
        · go_enter Tryz.func29, Tryz.ntmps29
          go_wp2_with (go_at_call 56; refine (key1_any _ _).mono ?_; rintro e w' ⟨rfl, rfl⟩)
          go_ret
          exact ⟨rfl, bA⟩
        · cases hw : wordB s
          · go_enter Tryz.func29, Tryz.ntmps29
            go_wp2_with (first | (go_at_call 56; refine (key1_any _ _).mono ?_; rintro e w' ⟨rfl, rfl⟩) | (go_at_call 57; refine (fword_any _ _ hs0).mono ?_; rintro e w' ⟨rfl, hb⟩))
            go_ret
            exact ⟨rfl, below_over hb⟩
          · have c3 : (w.alloc (.cells #[.int .i64 3, .int .i64 a, .string s, .int .i64 b] 29)).cell? ⟨w.heap.size, 3, none⟩ = some (.int .i64 b) := by simp
            by_cases hb : b = 0
            · subst hb
              go_enter Tryz.func29, Tryz.ntmps29
              go_wp2_with (first | (go_at_call 56; refine (key1_any _ _).mono ?_; rintro e w' ⟨rfl, rfl⟩) | (go_at_call 57; refine (fword_any _ _ hs0).mono ?_; rintro e w' ⟨rfl, hb⟩; have d3 := below_cell hb (by simp) c3))
              go_ret
              exact ⟨rfl, below_over hb⟩
            · have hb1 : ((b : Int) == 0) = false := by simpa using hb
              have hb2 : decide (b = 0) = false := decide_eq_false hb
              go_enter Tryz.func29, Tryz.ntmps29
              go_wp2_with (first | (go_at_call 56; refine (key1_any _ _).mono ?_; rintro e w' ⟨rfl, rfl⟩) | (go_at_call 57; refine (fword_any _ _ hs0).mono ?_; rintro e w' ⟨rfl, hb⟩; have d3 := below_cell hb (by simp) c3))
              go_ret
              exact ⟨by rw [hb2]; rfl, below_over hb⟩
      · have n3 : ((k : Int) == 3) = false := by simpa using k3
        rw [keyB_else k a b s k1 k2 k3]
        go_enter Tryz.func29, Tryz.ntmps29
        go_wp2
        go_ret
        exact ⟨rfl, bA⟩

set_option maxHeartbeats 2000000 in
theorem rkey_any (k a b : Int) (s : ByteArray) (w : World) (hs : s.size ≤ maxLen) :
    Calls Tryz.prog 87 #[.agg #[.int .i64 k, .int .i64 a, .string s, .int .i64 b]] w fun e w' => e = .returned (.bool (keyB ⟨k, a, s, b⟩)) ∧ Below w.heap.size w w' := by
  have hs0 := hs
  unfold maxLen at hs
  have bA : Below w.heap.size w (w.alloc (.cells #[.int .i64 k, .int .i64 a, .string s, .int .i64 b] 29)) := (Below.refl _ w).alloc (Nat.le_refl _) _
  have hA : ∀ W, Calls Tryz.prog 48 #[.int .i64 a, .int .i64 0, .int .i64 1048576] W fun e w' => e = .returned (.bool (nodeB a)) ∧ W = w' := fun W => in_any _ _ _ _
  have hB : ∀ W, Calls Tryz.prog 48 #[.int .i64 b, .int .i64 0, .int .i64 1048576] W fun e w' => e = .returned (.bool (nodeB b)) ∧ W = w' := fun W => in_any _ _ _ _
  have hW : ∀ W, Calls Tryz.prog 123 #[.string s] W fun e w' => e = .returned (.bool (wordB s)) ∧ w' = W := fun W => rword_any _ _ hs0
  cases hn : nodeB a
  · have e0 : keyB ⟨k, a, s, b⟩ = false := by
      unfold keyB
      simp only [hn, Bool.false_and]
      split
      · rfl
      · split
        · rfl
        · split <;> rfl
    rw [e0]
    clear e0
    go_enter Tryz.func87, Tryz.ntmps87
    go_wp2_with (go_at_call 48; refine (hA _).mono ?_; rintro e w' ⟨rfl, rfl⟩)
    go_ret
    exact ⟨rfl, bA⟩
  · by_cases k1 : k = 1
    · subst k1
      rw [keyB_1, hn]
      by_cases h0 : s.size = 0
      · have e1 := empty_true h0
        rw [h0]
        by_cases hb : b = 0
        · subst hb
          go_enter Tryz.func87, Tryz.ntmps87
          go_wp2_with (go_at_call 48; refine (hA _).mono ?_; rintro e w' ⟨rfl, rfl⟩)
          go_ret
          exact ⟨rfl, bA⟩
        · have hb1 : ((b : Int) == 0) = false := by simpa using hb
          have hb2 : decide (b = 0) = false := decide_eq_false hb
          go_enter Tryz.func87, Tryz.ntmps87
          go_wp2_with (go_at_call 48; refine (hA _).mono ?_; rintro e w' ⟨rfl, rfl⟩)
          go_ret
          exact ⟨by rw [hb2]; rfl, bA⟩
      · have e1 := empty_false h0
        have h2 : decide (s.size = 0) = false := decide_eq_false h0
        rw [h2]
        clear h2
        go_enter Tryz.func87, Tryz.ntmps87
        go_wp2_with (go_at_call 48; refine (hA _).mono ?_; rintro e w' ⟨rfl, rfl⟩)
        go_ret
        exact ⟨rfl, bA⟩
    · have n1 : ((k : Int) == 1) = false := by simpa using k1
      by_cases k2 : k = 2
      · subst k2
        rw [keyB_2, hn]
        cases hw : wordB s
        · go_enter Tryz.func87, Tryz.ntmps87
          go_wp2_with (first | (go_at_call 48; refine (hA _).mono ?_; rintro e w' ⟨rfl, rfl⟩) | (go_at_call 123; refine (hW _).mono ?_; rintro e w' ⟨rfl, rfl⟩))
          go_ret
          exact ⟨by rw [Bool.and_false]; rfl, bA⟩
        · go_enter Tryz.func87, Tryz.ntmps87
          go_wp2_with (first | (go_at_call 48; (with_reducible refine (hA _).mono ?_); rintro e w' ⟨rfl, rfl⟩) | (go_at_call 48; (with_reducible refine (hB _).mono ?_); rintro e w' ⟨rfl, rfl⟩) | (go_at_call 123; refine (hW _).mono ?_; rintro e w' ⟨rfl, rfl⟩))
          go_ret
          exact ⟨by rw [Bool.and_true]; rfl, bA⟩
      · have n2 : ((k : Int) == 2) = false := by simpa using k2
        by_cases k3 : k = 3
        · subst k3
          rw [keyB_3, hn]
          cases hw : wordB s
          · go_enter Tryz.func87, Tryz.ntmps87
            go_wp2_with (first | (go_at_call 48; refine (hA _).mono ?_; rintro e w' ⟨rfl, rfl⟩) | (go_at_call 123; refine (hW _).mono ?_; rintro e w' ⟨rfl, rfl⟩))
            go_ret
            exact ⟨rfl, bA⟩
          · by_cases hb : b = 0
            · subst hb
              go_enter Tryz.func87, Tryz.ntmps87
              go_wp2_with (first | (go_at_call 48; refine (hA _).mono ?_; rintro e w' ⟨rfl, rfl⟩) | (go_at_call 123; refine (hW _).mono ?_; rintro e w' ⟨rfl, rfl⟩))
              go_ret
              exact ⟨rfl, bA⟩
            · have hb1 : ((b : Int) == 0) = false := by simpa using hb
              have hb2 : decide (b = 0) = false := decide_eq_false hb
              go_enter Tryz.func87, Tryz.ntmps87
              go_wp2_with (first | (go_at_call 48; refine (hA _).mono ?_; rintro e w' ⟨rfl, rfl⟩) | (go_at_call 123; refine (hW _).mono ?_; rintro e w' ⟨rfl, rfl⟩))
              go_ret
              exact ⟨by rw [hb2]; rfl, bA⟩
        · have n3 : ((k : Int) == 3) = false := by simpa using k3
          rw [keyB_else k a b s k1 k2 k3]
          go_enter Tryz.func87, Tryz.ntmps87
          go_wp2_with (go_at_call 48; refine (hA _).mono ?_; rintro e w' ⟨rfl, rfl⟩)
          go_ret
          exact ⟨rfl, bA⟩
end Go.Proofs.YtacedfcckkpciaaGreatDoor

namespace Go.Proofs.YtacedfcckkpciaaGreatDoor
open Go.RowKit

set_option maxHeartbeats 1000000 in
theorem rless_any (k a b k' a' b' : Int) (s s' : ByteArray) (w : World) :
    Calls Tryz.prog 96 #[.agg #[.int .i64 k, .int .i64 a, .string s, .int .i64 b], .agg #[.int .i64 k', .int .i64 a', .string s', .int .i64 b']] w fun e w' => e = .returned (.bool (keyLess ⟨k, a, s, b⟩ ⟨k', a', s', b'⟩)) ∧ Below w.heap.size w w' := by
  have bA : Below w.heap.size w ((w.alloc (.cells #[.int .i64 k, .int .i64 a, .string s, .int .i64 b] 29)).alloc (.cells #[.int .i64 k', .int .i64 a', .string s', .int .i64 b'] 29)) := ((Below.refl _ w).alloc (Nat.le_refl _) _).alloc (by simp) _
  have f1 : (k != k') = true → keyLess ⟨k, a, s, b⟩ ⟨k', a', s', b'⟩ = decide (k < k') := fun h => by
    have h' : k ≠ k' := by simpa using h
    unfold keyLess; simp only [ne_eq, h', not_false_eq_true, if_true]
  have f2 : (k != k') = false → (a != a') = true → keyLess ⟨k, a, s, b⟩ ⟨k', a', s', b'⟩ = decide (a < a') := fun h1 h2 => by
    have h1' : k = k' := by simpa using h1
    have h2' : a ≠ a' := by simpa using h2
    unfold keyLess; simp only [ne_eq, h1', h2', not_true_eq_false, not_false_eq_true, if_true, if_false]
  have f3 : (k != k') = false → (a != a') = false → (!s.toList == s'.toList) = true → keyLess ⟨k, a, s, b⟩ ⟨k', a', s', b'⟩ = Op.bytesLess s.toList s'.toList := fun h1 h2 h3 => by
    have h1' : k = k' := by simpa using h1
    have h2' : a = a' := by simpa using h2
    have h3' : s ≠ s' := fun e => by subst e; simp at h3
    unfold keyLess; simp only [ne_eq, h1', h2', h3', not_true_eq_false, not_false_eq_true, if_true, if_false]
    rw [ByteArray.toList_eq, ByteArray.toList_eq]
  have f4 : (k != k') = false → (a != a') = false → (!s.toList == s'.toList) = false → keyLess ⟨k, a, s, b⟩ ⟨k', a', s', b'⟩ = decide (b < b') := fun h1 h2 h3 => by
    have h1' : k = k' := by simpa using h1
    have h2' : a = a' := by simpa using h2
    have h3' : s = s' := by
      have h4 : s.toList = s'.toList := by simpa using h3
      rw [ByteArray.toList_eq, ByteArray.toList_eq] at h4
      exact bytes_ext h4
    unfold keyLess; simp only [ne_eq, h1', h2', h3', not_true_eq_false, if_false]
  have F1 := Lib.hid f1
  have F2 := Lib.hid f2
  have F3 := Lib.hid f3
  have F4 := Lib.hid f4
  clear f1 f2 f3 f4
  generalize keyLess ⟨k, a, s, b⟩ ⟨k', a', s', b'⟩ = r at *
  go_enter Tryz.func96, Tryz.ntmps96
  go_wp2
  all_goals
    go_ret
    first
      | exact ⟨ret_bool (F1.out (by assumption)).symm, bA⟩
      | exact ⟨ret_bool (F2.out (by assumption) (by assumption)).symm, bA⟩
      | exact ⟨ret_bool (F3.out (by assumption) (by assumption) (by assumption)).symm, bA⟩
      | exact ⟨ret_bool (F4.out (by assumption) (by assumption) (by assumption)).symm, bA⟩
theorem cmpArr (x y z u : Int) : ∀ w, (Instr.index 167 (.agg #[.int .i64 x, .int .i64 y, .int .i64 z, .int .i64 u]) (.int .i64 0)).run Tryz.prog w = .ok (.agg #[.int .i64 x, .int .i64 y]) w ∧
    (Instr.index 167 (.agg #[.int .i64 x, .int .i64 y, .int .i64 z, .int .i64 u]) (.int .i64 1)).run Tryz.prog w = .ok (.agg #[.int .i64 z, .int .i64 u]) w := fun w => ⟨by kernel_rfl, by kernel_rfl⟩
set_option maxHeartbeats 1000000 in
theorem fcmp_any (k a b k' a' b' : Int) (s s' : ByteArray) (w : World) :
    Calls Tryz.prog 43 #[.agg #[.int .i64 k, .int .i64 a, .string s, .int .i64 b], .agg #[.int .i64 k', .int .i64 a', .string s', .int .i64 b']] w fun e w' => e = .returned (.int .i64 (keyCmp ⟨k, a, s, b⟩ ⟨k', a', s', b'⟩)) ∧ Below w.heap.size w w' := by
  have i1 := fun w => (cmpArr k k' a a' w).1
  have i2 := fun w => (cmpArr k k' a a' w).2
  have b2 : Below w.heap.size w ((w.alloc (.cells #[.int .i64 k, .int .i64 a, .string s, .int .i64 b] 29)).alloc (.cells #[.int .i64 k', .int .i64 a', .string s', .int .i64 b'] 29)) := ((Below.refl _ w).alloc (Nat.le_refl _) _).alloc (by simp) _
  have b3 : Below w.heap.size w (((w.alloc (.cells #[.int .i64 k, .int .i64 a, .string s, .int .i64 b] 29)).alloc (.cells #[.int .i64 k', .int .i64 a', .string s', .int .i64 b'] 29)).alloc (.cells #[.int .i64 k, .int .i64 k'] 100)) := b2.alloc (by simp; omega) _
  have b4 : Below w.heap.size w ((((w.alloc (.cells #[.int .i64 k, .int .i64 a, .string s, .int .i64 b] 29)).alloc (.cells #[.int .i64 k', .int .i64 a', .string s', .int .i64 b'] 29)).alloc (.cells #[.int .i64 k, .int .i64 k'] 100)).alloc (.cells #[.int .i64 a, .int .i64 a'] 100)) := b3.alloc (by simp; omega) _
  by_cases h1 : k = k'
  · subst h1
    by_cases h2 : a = a'
    · subst h2
      by_cases h3 : s = s'
      · subst h3
        by_cases h4 : b = b'
        · subst h4
          have e : keyCmp ⟨k, a, s, b⟩ ⟨k, a, s, b⟩ = 0 := by unfold keyCmp; simp
          rw [e]; clear e
          go_enter Tryz.func43, Tryz.ntmps43
          go_wp2
          refine wp_loop_rounds 3 ?_
          rw [rounds_succ]
          go_wp2
          rw [rounds_succ]
          go_wp2
          rw [rounds_succ]
          go_wp2
          go_ret
          exact ⟨rfl, b4⟩
        · have e : keyCmp ⟨k, a, s, b⟩ ⟨k, a, s, b'⟩ = sgn (decide (b' < b)) := by unfold keyCmp; simp [h4]
          rw [e]; clear e
          have n4 : (b != b') = true := by simpa using h4
          have n5 : ((b : Int) == b') = false := by simpa using h4
          go_enter Tryz.func43, Tryz.ntmps43
          go_wp2
          refine wp_loop_rounds 3 ?_
          rw [rounds_succ]
          go_wp2
          rw [rounds_succ]
          go_wp2
          rw [rounds_succ]
          go_wp2_with (go_at_call 81; refine (sign_any _ _).mono ?_; rintro e w' ⟨rfl, rfl⟩)
          go_ret
          exact ⟨rfl, b4⟩
      · have n3 : (!s.toList == s'.toList) = true := by
          have : ¬ s.toList = s'.toList := fun e => h3 (bytes_ext (by rw [← ByteArray.toList_eq, ← ByteArray.toList_eq]; exact e))
          simpa using this
        have n4 : (s.toList == s'.toList) = false := by simpa using n3
        have e : keyCmp ⟨k, a, s, b⟩ ⟨k, a, s', b'⟩ = sgn (!(Op.bytesLess s.toList s'.toList || (s.toList == s'.toList))) := by
          have h : (!(Op.bytesLess s.toList s'.toList || (s.toList == s'.toList))) = Op.bytesLess s'.data.toList s.data.toList := by
            rw [n4, Bool.or_false, ByteArray.toList_eq, ByteArray.toList_eq]
            rcases bless_tri s.data.toList s'.data.toList with h | h | h
            · rw [h, bless_asymm _ _ h]; rfl
            · exact absurd (bytes_ext h) h3
            · rw [h, bless_asymm _ _ h]; rfl
          rw [h]
          unfold keyCmp; simp [h3]
        rw [e]; clear e
        go_enter Tryz.func43, Tryz.ntmps43
        go_wp2
        refine wp_loop_rounds 3 ?_
        rw [rounds_succ]
        go_wp2
        rw [rounds_succ]
        go_wp2
        rw [rounds_succ]
        go_wp2_with (go_at_call 81; refine (sign_any _ _).mono ?_; rintro e w' ⟨rfl, rfl⟩)
        go_ret
        exact ⟨by rw [n4, Bool.or_false]; rfl, b4⟩
    · have e : keyCmp ⟨k, a, s, b⟩ ⟨k, a', s', b'⟩ = sgn (decide (a' < a)) := by unfold keyCmp; simp [h2]
      rw [e]; clear e
      have n4 : (a != a') = true := by simpa using h2
      go_enter Tryz.func43, Tryz.ntmps43
      go_wp2
      refine wp_loop_rounds 3 ?_
      rw [rounds_succ]
      go_wp2
      rw [rounds_succ]
      go_wp2_with (go_at_call 81; refine (sign_any _ _).mono ?_; rintro e w' ⟨rfl, rfl⟩)
      go_ret
      exact ⟨rfl, b4⟩
  · have e : keyCmp ⟨k, a, s, b⟩ ⟨k', a', s', b'⟩ = sgn (decide (k' < k)) := by unfold keyCmp; simp [h1]
    rw [e]; clear e
    have n4 : (k != k') = true := by simpa using h1
    go_enter Tryz.func43, Tryz.ntmps43
    go_wp2
    refine wp_loop_rounds 3 ?_
    rw [rounds_succ]
    go_wp2_with (go_at_call 81; refine (sign_any _ _).mono ?_; rintro e w' ⟨rfl, rfl⟩)
    go_ret
    exact ⟨rfl, b3⟩
end Go.Proofs.YtacedfcckkpciaaGreatDoor

namespace Go.Proofs.YtacedfcckkpciaaGreatDoor
open Go.RowKit

theorem spanB_right (f t : Int) : spanB f t = rightB f t := rfl
theorem opB_mk (k a b f t : Int) (s v : ByteArray) : opB ⟨⟨k, a, s, b⟩, f, t, v⟩ = (keyB ⟨k, a, s, b⟩ && (rightB f t && (decide (v.size = 0) || wordB v))) := rfl

set_option maxHeartbeats 1000000 in
theorem fop_any (k a b f t : Int) (s v : ByteArray) (w : World) (hs : s.size ≤ maxLen) (hv : v.size ≤ maxLen) :
    Calls Tryz.prog 60 #[.agg #[.int .i64 k, .int .i64 a, .string s, .int .i64 b, .int .i64 f, .int .i64 t, .string v]] w fun e w' => e = .returned (.bool (opB ⟨⟨k, a, s, b⟩, f, t, v⟩)) ∧ Below w.heap.size w w' := by
  obtain ⟨W, hW⟩ : ∃ W, W = w.alloc (.cells #[.int .i64 k, .int .i64 a, .string s, .int .i64 b, .int .i64 f, .int .i64 t, .string v] 46) := ⟨_, rfl⟩
  have bA : Below w.heap.size w W := by rw [hW]; exact (Below.refl _ w).alloc (Nat.le_refl _) _
  have hwW : w.heap.size < W.heap.size := by rw [hW]; simp
  have c0 : W.cell? ⟨w.heap.size, 0, none⟩ = some (.int .i64 k) := by rw [hW]; simp
  have c1 : W.cell? ⟨w.heap.size, 1, none⟩ = some (.int .i64 a) := by rw [hW]; simp
  have c2 : W.cell? ⟨w.heap.size, 2, none⟩ = some (.string s) := by rw [hW]; simp
  have c3 : W.cell? ⟨w.heap.size, 3, none⟩ = some (.int .i64 b) := by rw [hW]; simp
  have c4 : W.cell? ⟨w.heap.size, 4, none⟩ = some (.int .i64 f) := by rw [hW]; simp
  have c5 : W.cell? ⟨w.heap.size, 5, none⟩ = some (.int .i64 t) := by rw [hW]; simp
  have c6 : W.cell? ⟨w.heap.size, 6, none⟩ = some (.string v) := by rw [hW]; simp
  have HW := Lib.hid hW
  clear hW
  have hK := fun W' => fkey_any k a b s W' hs
  have hR := fun W' => right_any f t W'
  have hF := fun W' => fword_any v W' hv
  rw [opB_mk]
  cases e1 : keyB ⟨k, a, s, b⟩
  · simp only [e1] at hK
    go_enter Tryz.func60, Tryz.ntmps60
    go_wp2_with fail
    rw [← HW.out]
    go_wp2_with (go_at_call 29; refine (hK _).mono ?_; rintro e w1 ⟨rfl, h1⟩)
    go_ret
    exact ⟨rfl, below_step bA h1⟩
  · simp only [e1] at hK
    cases e2 : rightB f t
    · simp only [e2] at hR
      go_enter Tryz.func60, Tryz.ntmps60
      go_wp2_with fail
      rw [← HW.out]
      go_wp2_with (first | (go_at_call 29; refine (hK _).mono ?_; rintro e w1 ⟨rfl, h1⟩; have d4 := below_cell h1 hwW c4; have d5 := below_cell h1 hwW c5) | (go_at_call 14; refine (hR _).mono ?_; rintro e w2 ⟨rfl, h2⟩))
      go_ret
      exact ⟨rfl, below_step (below_step bA h1) h2⟩
    · simp only [e2] at hR
      by_cases h0 : v.size = 0
      · have e3 := empty_true h0
        rw [h0]
        go_enter Tryz.func60, Tryz.ntmps60
        go_wp2_with fail
        rw [← HW.out]
        go_wp2_with (first | (go_at_call 29; refine (hK _).mono ?_; rintro e w1 ⟨rfl, h1⟩; have d4 := below_cell h1 hwW c4; have d5 := below_cell h1 hwW c5; have d6 := below_cell h1 hwW c6; have hz := Nat.lt_of_lt_of_le hwW h1.size) | (go_at_call 14; refine (hR _).mono ?_; rintro e w2 ⟨rfl, h2⟩; have g6 := below_cell h2 hz d6))
        go_ret
        exact ⟨rfl, below_step (below_step bA h1) h2⟩
      · have e3 := empty_false h0
        have h0' : decide (v.size = 0) = false := decide_eq_false h0
        rw [h0']
        clear h0'
        go_enter Tryz.func60, Tryz.ntmps60
        go_wp2_with fail
        rw [← HW.out]
        go_wp2_with (first | (go_at_call 29; refine (hK _).mono ?_; rintro e w1 ⟨rfl, h1⟩; have d4 := below_cell h1 hwW c4; have d5 := below_cell h1 hwW c5; have d6 := below_cell h1 hwW c6; have hz := Nat.lt_of_lt_of_le hwW h1.size) | (go_at_call 14; refine (hR _).mono ?_; rintro e w2 ⟨rfl, h2⟩; have g6 := below_cell h2 hz d6) | (go_at_call 57; refine (hF _).mono ?_; rintro e w3 ⟨rfl, h3⟩))
        go_ret
        exact ⟨rfl, below_step (below_step (below_step bA h1) h2) h3⟩
set_option maxHeartbeats 1000000 in
theorem rop_any (k a b f t : Int) (s v : ByteArray) (w : World) (hs : s.size ≤ maxLen) (hv : v.size ≤ maxLen) :
    Calls Tryz.prog 82 #[.agg #[.int .i64 k, .int .i64 a, .string s, .int .i64 b, .int .i64 f, .int .i64 t, .string v]] w fun e w' => e = .returned (.bool (opB ⟨⟨k, a, s, b⟩, f, t, v⟩)) ∧ Below w.heap.size w w' := by
  obtain ⟨W, hW⟩ : ∃ W, W = w.alloc (.cells #[.int .i64 k, .int .i64 a, .string s, .int .i64 b, .int .i64 f, .int .i64 t, .string v] 46) := ⟨_, rfl⟩
  have bA : Below w.heap.size w W := by rw [hW]; exact (Below.refl _ w).alloc (Nat.le_refl _) _
  have hwW : w.heap.size < W.heap.size := by rw [hW]; simp
  have c0 : W.cell? ⟨w.heap.size, 0, none⟩ = some (.int .i64 k) := by rw [hW]; simp
  have c1 : W.cell? ⟨w.heap.size, 1, none⟩ = some (.int .i64 a) := by rw [hW]; simp
  have c2 : W.cell? ⟨w.heap.size, 2, none⟩ = some (.string s) := by rw [hW]; simp
  have c3 : W.cell? ⟨w.heap.size, 3, none⟩ = some (.int .i64 b) := by rw [hW]; simp
  have c4 : W.cell? ⟨w.heap.size, 4, none⟩ = some (.int .i64 f) := by rw [hW]; simp
  have c5 : W.cell? ⟨w.heap.size, 5, none⟩ = some (.int .i64 t) := by rw [hW]; simp
  have c6 : W.cell? ⟨w.heap.size, 6, none⟩ = some (.string v) := by rw [hW]; simp
  have HW := Lib.hid hW
  clear hW
  have hK := fun W' => rkey_any k a b s W' hs
  have hR := fun W' => rright_any f t W'
  have hF : ∀ W', Calls Tryz.prog 123 #[.string v] W' fun e w' => e = .returned (.bool (wordB v)) ∧ w' = W' := fun W' => rword_any v W' hv
  rw [opB_mk]
  cases e1 : keyB ⟨k, a, s, b⟩
  · simp only [e1] at hK
    go_enter Tryz.func82, Tryz.ntmps82
    go_wp2_with fail
    rw [← HW.out]
    go_wp2_with (go_at_call 87; refine (hK _).mono ?_; rintro e w1 ⟨rfl, h1⟩)
    go_ret
    exact ⟨rfl, below_step bA h1⟩
  · simp only [e1] at hK
    cases e2 : rightB f t
    · simp only [e2] at hR
      go_enter Tryz.func82, Tryz.ntmps82
      go_wp2_with fail
      rw [← HW.out]
      go_wp2_with (first | (go_at_call 87; refine (hK _).mono ?_; rintro e w1 ⟨rfl, h1⟩; have d4 := below_cell h1 hwW c4; have d5 := below_cell h1 hwW c5) | (go_at_call 91; refine (hR _).mono ?_; rintro e w2 ⟨rfl, h2⟩))
      go_ret
      exact ⟨rfl, below_step (below_step bA h1) h2⟩
    · simp only [e2] at hR
      by_cases h0 : v.size = 0
      · have e3 := empty_true h0
        rw [h0]
        go_enter Tryz.func82, Tryz.ntmps82
        go_wp2_with fail
        rw [← HW.out]
        go_wp2_with (first | (go_at_call 87; refine (hK _).mono ?_; rintro e w1 ⟨rfl, h1⟩; have d4 := below_cell h1 hwW c4; have d5 := below_cell h1 hwW c5; have d6 := below_cell h1 hwW c6; have hz := Nat.lt_of_lt_of_le hwW h1.size) | (go_at_call 91; refine (hR _).mono ?_; rintro e w2 ⟨rfl, h2⟩; have g6 := below_cell h2 hz d6))
        go_ret
        exact ⟨rfl, below_step (below_step bA h1) h2⟩
      · have e3 := empty_false h0
        have h0' : decide (v.size = 0) = false := decide_eq_false h0
        rw [h0']
        clear h0'
        go_enter Tryz.func82, Tryz.ntmps82
        go_wp2_with fail
        rw [← HW.out]
        go_wp2_with (first | (go_at_call 87; refine (hK _).mono ?_; rintro e w1 ⟨rfl, h1⟩; have d4 := below_cell h1 hwW c4; have d5 := below_cell h1 hwW c5; have d6 := below_cell h1 hwW c6; have hz := Nat.lt_of_lt_of_le hwW h1.size) | (go_at_call 91; refine (hR _).mono ?_; rintro e w2 ⟨rfl, h2⟩; have g6 := below_cell h2 hz d6) | (go_at_call 123; refine (hF _).mono ?_; rintro e w3 ⟨rfl, rfl⟩))
        go_ret
        exact ⟨rfl, below_step (below_step bA h1) h2⟩
theorem fwrite1_any (k a b f t : Int) (s v : ByteArray) (w : World) (hs : s.size ≤ maxLen) (hv : v.size ≤ maxLen) :
    Calls Tryz.prog 59 #[.agg #[.int .i64 k, .int .i64 a, .string s, .int .i64 b, .int .i64 f, .int .i64 t, .string v]] w fun e w' => e = .returned (.bool (!opB ⟨⟨k, a, s, b⟩, f, t, v⟩)) ∧ Below w.heap.size w w' := by
  go_enter Tryz.func59, Tryz.ntmps59
  go_wp2_with (go_at_call 60; refine (fop_any k a b f t s v _ hs hv).mono ?_; rintro e w1 ⟨rfl, h1⟩)
  go_ret
  exact ⟨rfl, below_over h1⟩
end Go.Proofs.YtacedfcckkpciaaGreatDoor

namespace Go.Proofs.YtacedfcckkpciaaGreatDoor
open Go.RowKit

/-- The library's table of powers of ten. -/
def PowTab (w : World) : Prop := Lib.TabIs Tryz.prog w "internal/strconv.uint64pow10" .u64 Lib.pow10Tab
theorem PowTab.below {w w' : World} (h : PowTab w) (hb : Below w.heap.size w w') : PowTab w' := Lib.tabBelow_of_tabIs h w' hb
theorem PowTab.drew {w : World} (h : PowTab w) : PowTab w.drew := h.below ((Below.refl _ _).drew)

def i64B (n : Int) : Prop := -9223372036854775808 ≤ n ∧ n ≤ 9223372036854775807
theorem itoa_any (n : Int) (hn : i64B n) (w : World) (ht : PowTab w) : Calls Tryz.prog 61 #[.int .i64 n] w fun e w' => e = .returned (.string ⟨(Lib.itoa n).toArray⟩) ∧ Below w.heap.size w w' :=
  (Tryz.strconv_Itoa n hn.1 hn.2 w ht).mono fun _ _ ⟨h1, k, os, h2⟩ => ⟨h1, by rw [h2]; exact Lib.below_grow _ w (Nat.le_refl _) k os⟩

/-- A slice of strings. -/
def textsAt (w : World) (ao : Option Addr) (l : List ByteArray) : Prop := ∀ i x, l[i]? = some x → ∃ b o, ao = some ⟨b, o, none⟩ ∧ w.cell? ⟨b, o + i, none⟩ = some (.string x)
theorem textsAt.below {w w' : World} {ao : Option Addr} {l : List ByteArray} (h : textsAt w ao l) (hb : Below w.heap.size w w') : textsAt w' ao l :=
  fun i x hi => let ⟨b, o, h1, h2⟩ := h i x hi
    ⟨b, o, h1, (hb.cell (p := ⟨b, _, none⟩) (World.block_lt_of_cell? w _ h2)).trans h2⟩
theorem infoStr : (Tryz.prog.info? 9).map (fun i => (i.zero, i.size, i.bytes)) = some (some (.string ⟨#[]⟩), 1, 16) := by kernel_rfl
theorem ownsRow_texts {w : World} {base n : Nat} {v : Value} {l : List ByteArray} {e : TypeId} (h : w.ownsRow base e 1 v n (l.map Value.string)) :
    ∃ ao cap, v = .slice ao l.length cap ∧ textsAt w ao l ∧ l.length ≤ cap ∧ (ao = none → l = []) := by
  have hn : n = l.length := by have := h.1; simp at this; omega
  subst hn
  have h0 := h
  rcases h.2 with ⟨rfl, hn⟩ | ⟨g, cap, cur, rfl, hbg, hh, hnc, hcm, hcs, htk⟩
  · have hl : l = [] := List.eq_nil_of_length_eq_zero hn
    subst hl
    exact ⟨none, 0, rfl, fun i x hx => by simp at hx, Nat.le_refl _, fun _ => rfl⟩
  · refine ⟨some ⟨g, 0, none⟩, cap, rfl, fun i x hx => ⟨g, 0, rfl, ?_⟩, hnc, fun h => by cases h⟩
    have hi := (List.getElem?_eq_some_iff.1 hx).1
    have := h0.cellAt i (by omega)
    rw [Nat.zero_add, this]
    simp [hx]
/-- strings.Join, of a slice of strings. -/
theorem join_any (ao : Option Addr) (c : Nat) (xs : List ByteArray) (sep : ByteArray) (w : World) (hx : textsAt w ao xs) (hc : xs.length ≤ c) (hn : xs.length ≤ 140737488355328) (hlen : (Lib.join (xs.map (·.data.toList)) sep.data.toList).length ≤ 140737488355328) :
    Calls Tryz.prog 63 #[.slice ao xs.length c, .string sep] w fun e w' => e = .returned (.string ⟨(Lib.join (xs.map (·.data.toList)) sep.data.toList).toArray⟩) ∧ Below w.heap.size w w' := by
  cases xs with
  | nil => exact (Tryz.strings_Join_none ao c sep w).mono fun _ _ ⟨h1, h2⟩ => ⟨h1, by rw [h2]; exact Below.refl _ _⟩
  | cons x r =>
    obtain ⟨b, o, rfl, h0⟩ := hx 0 x rfl
    exact Tryz.strings_Join b o c (x :: r) sep w (fun j y hj => by obtain ⟨b', o', h1, h2⟩ := hx j y hj; cases h1; exact h2) (World.block_lt_of_cell? w _ h0) hn hc hlen

/-- One string more. -/
theorem appText {W : World} {ops : Array Oper} {rest : List Oper} {o : Oper} {a : Act} {Q : Exit → Act → World → Prop} (hgd : o.guard = none) (s x : Operand)
    (ho : o.op = .call { callee := .builtin .append, args := #[s, x], argTypes := #[32, 32] }) (base : Nat) (v : Value) (l : List ByteArray) (hs : a.eval s = v) (hown : W.ownsRow base 9 1 v l.length (l.map Value.string))
    (b : Nat) (t : ByteArray) (hx : a.eval x = .slice (some ⟨b, 0, none⟩) 1 1) (hc1 : W.cell? ⟨b, 0, none⟩ = some (.string t))
    (hbytes : (l.length + 1) * 16 ≤ 140737488355328) (hbase : base ≤ W.heap.size) (w0 : World) (hB : Below base w0 W)
    (h : ∀ v' w', w'.ownsRow base 9 1 v' (l ++ [t]).length ((l ++ [t]).map Value.string) → Below base w0 w' → W.heap.size ≤ w'.heap.size → W.grownBy w' v.ownBlock → wpList Tryz.prog ops Q rest (a.put o.dst v') w') : wpList Tryz.prog ops Q (o :: rest) a W := by
  refine app1 hgd s x _ ho base 9 Tryz.underlying32 infoStr rfl (by decide) (by decide) v l.length (l.map Value.string) hs hown b [.string t] hx rfl (fun u hu => ?_) (fun j u hu => ?_) hbytes hbase w0 hB fun v' w' h2 h3 h4 h5 h6 => h v' w' ?_ h3 h4 h6
  · simp at hu; subst hu; rfl
  · match j, hu with
    | 0, hu => simp at hu; subst hu; exact hc1
  · rw [List.map_append, List.length_append]; exact h2

/-! ### Words -/
def numsB (l : List Int) : List ByteArray := l.map fun n => ⟨(Lib.itoa n).toArray⟩
theorem numsB_data (l : List Int) : (numsB l).map (·.data.toList) = l.map Lib.itoa := by simp [numsB]
theorem numsB_length (l : List Int) : (numsB l).length = l.length := by simp [numsB]
theorem numsB_snoc (l : List Int) (k : Nat) (x : Int) (h : l[k]? = some x) : numsB (l.take (k + 1)) = numsB (l.take k) ++ [⟨(Lib.itoa x).toArray⟩] := by
  rw [List.take_add_one, h]; simp [numsB]
theorem join_len (sep : List UInt8) (m : Nat) : ∀ l : List (List UInt8), (∀ p ∈ l, p.length ≤ m) → (Lib.join l sep).length ≤ l.length * (m + sep.length)
  | [], _ => by simp [Lib.join, List.intercalate]
  | [p], h => by
    have := h p (by simp)
    simp [Lib.join, List.intercalate, List.intersperse]; omega
  | p :: q :: r, h => by
    have h1 := h p (by simp)
    have h2 := join_len sep m (q :: r) (fun x hx => h x (List.mem_cons_of_mem _ hx))
    have e : Lib.join (p :: q :: r) sep = p ++ (sep ++ Lib.join (q :: r) sep) := by simp [Lib.join, List.intercalate, List.intersperse]
    rw [e]
    simp only [List.length_append, List.length_cons, Nat.add_mul, Nat.one_mul] at h2 ⊢
    omega
def wordsT (l : List Int) : List UInt8 := Lib.join (l.map Lib.itoa) [32]
theorem wordsT_len (l : List Int) (h : ∀ x ∈ l, i64B x) : (wordsT l).length ≤ l.length * 22 := by
  have := join_len [32] 21 (l.map Lib.itoa) (fun p hp => by
    obtain ⟨x, hx, rfl⟩ := List.mem_map.1 hp
    exact Lib.itoa_length_le x (h x hx).1 (h x hx).2)
  simpa [wordsT] using this

set_option maxHeartbeats 1000000 in
theorem words_any (ao : Option Addr) (c : Nat) (l : List Int) (w : World) (hl : intsAt w ao l) (hwf : ∀ x ∈ l, i64B x) (hn : l.length ≤ 4294967296) (ht : PowTab w) :
    Calls Tryz.prog 84 #[.slice ao l.length c] w fun e w' => e = .returned (.string ⟨(wordsT l).toArray⟩) ∧ Below w.heap.size w w' := by
  have HT := Lib.hid ht
  have HL := Lib.hid hl
  have HF := Lib.hid hwf
  clear ht hl hwf
  go_enter Tryz.func84, Tryz.ntmps84
  go_wp2
  go_loopw [3, 8] (fun v i wr => ∃ k : Nat, k ≤ l.length ∧ i = .int .i64 k ∧ wr.ownsRow w.heap.size 9 1 v (numsB (l.take k)).length ((numsB (l.take k)).map Value.string) ∧ Below w.heap.size w wr) (fun _ i _ => l.length - (intOf i).toNat)
  case atStart => exact ⟨0, by omega, rfl, World.ownsRow_nil _ _ _ _, Below.refl _ _⟩
  case round =>
    obtain ⟨k, hk, rfl, hown, hB⟩ := hrel
    by_cases hlt : k < l.length
    · obtain ⟨b, o, x, g1, rfl, c1⟩ := intsAt_get HL.out hlt
      have hb : b < w.heap.size := World.block_lt_of_cell? w _ c1
      have c1 := (hB.cell (p := ⟨b, o + k, none⟩) hb).trans c1
      have hx : i64B x := HF.out x (List.mem_of_getElem? g1.out)
      have hsn := Lib.hid (numsB_snoc l k x g1.out)
      have hle : (numsB (l.take k)).length ≤ k := by rw [numsB_length]; exact List.length_take_le _ _
      generalize hM : numsB (l.take k) = M at *
      have HM := Lib.hid hM
      clear hM
      have hT1 := HT.out.below hB
      have HX := Lib.hid hx
      have HB := Lib.hid hB
      have HO := Lib.hid hown
      have hsz := hB.size
      clear hx hB hown
      go_wp2_with (first | (go_at_call 61; refine (itoa_any x HX.out _ hT1).mono ?_; rintro e w1 ⟨rfl, hb1⟩; have HB1 := Lib.hid (below_trans HB.out HB.out.size hb1); have HO1 := Lib.hid (ownsRow_below HO.out hb1); have hs1 := hb1.size; clear hb1) | (at_builtin; refine appText rfl _ _ rfl w.heap.size _ M rfl (HO1.out.alloc _) w1.heap.size ⟨(Lib.itoa x).toArray⟩ rfl (by simp) (by omega) (by simp; omega) w (HB1.out.alloc HB1.out.size _) ?_; intro v' w2 hown2 hB2 hs2 hg2))
      exact ⟨⟨k + 1, by omega, by go_num, by rw [hsn.out]; exact hown2, hB2⟩, by simp [intOf]; omega⟩
    · have he : l.take k = l := List.take_of_length_le (by omega)
      rw [he] at hown
      clear he
      obtain ⟨ao', cap, rfl, ht1, hcap, _⟩ := ownsRow_texts hown
      have hJ := join_any ao' cap (numsB l) ⟨#[32]⟩ wr ht1 hcap (by rw [numsB_length]; omega) (by
        have := wordsT_len l HF.out
        rw [numsB_data]; unfold wordsT at this; simp only at this ⊢; omega)
      rw [numsB_data] at hJ
      have HJ := Lib.hid hJ
      have HB := Lib.hid hB
      clear hJ hown ht1 hB
      go_wp2_with (go_at_call 63; refine HJ.out.mono ?_; rintro e w1 ⟨rfl, hb1⟩)
      go_ret
      exact ⟨rfl, below_trans HB.out HB.out.size hb1⟩
end Go.Proofs.YtacedfcckkpciaaGreatDoor
