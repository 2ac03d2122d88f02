/- Words, keys, the order of keys: what the program and the document's answer compute. -/
import Derived.Test.YtjgmgaleaihjpaaGreatDoorSpanC
import Derived.Test.YtjgmgaleaihjpaaGreatDoorFactN
import Derived.Test.YtjgmgaleaihjpaaGreatDoorShelf
import Derived.Shelf.Strings.SlTrimAscii
namespace Go.Proofs.YtjgmgaleaihjpaaGreatDoor
open Go.RowKit

theorem size_toList (s : ByteArray) : s.data.toList.length = s.size := Array.length_toList
theorem empty_eq (s : ByteArray) : s.toList.isEmpty = decide (s.size = 0) := by
  rw [ByteArray.toList_eq, ← size_toList]
  cases s.data.toList <;> simp
theorem empty_true {s : ByteArray} (h : s.size = 0) : s.toList.isEmpty = true := by rw [empty_eq]; simpa using h
theorem empty_false {s : ByteArray} (h : ¬ s.size = 0) : s.toList.isEmpty = false := by rw [empty_eq]; simpa using h
theorem dash_no {s : ByteArray} (h : ¬ s.size = 0) : (⟨(dashL s).toArray⟩ : ByteArray) = s := by unfold dashL; rw [if_neg h]
theorem dash_yes {s : ByteArray} (h : s.size = 0) : dashL s = [45] := by unfold dashL; rw [if_pos h]

theorem dashF_any (s : ByteArray) (w : World) : Calls Tryz.prog 33 #[.string s] w fun e w' => e = .returned (.string ⟨(dashL s).toArray⟩) ∧ w' = w := by
  by_cases h : s.size = 0
  · have h1 := empty_true h
    rw [dash_yes h]
    go_enter Tryz.func33, Tryz.ntmps33
    go_wp2
    go_ret
    exact ⟨rfl, rfl⟩
  · have h1 := empty_false h
    rw [dash_no h]
    go_enter Tryz.func33, Tryz.ntmps33
    go_wp2
    go_ret
    exact ⟨rfl, rfl⟩
theorem dashR_any (s : ByteArray) (w : World) : Calls Tryz.prog 25 #[.string s] w fun e w' => e = .returned (.string ⟨(dashL s).toArray⟩) ∧ w' = w := by
  by_cases h : s.size = 0
  · have h1 := empty_true h
    rw [dash_yes h]
    go_enter Tryz.func25, Tryz.ntmps25
    go_wp2
    go_ret
    exact ⟨rfl, rfl⟩
  · have h1 := empty_false h
    rw [dash_no h]
    go_enter Tryz.func25, Tryz.ntmps25
    go_wp2
    go_ret
    exact ⟨rfl, rfl⟩
theorem key1_any (n : Int) (w : World) : Calls Tryz.prog 69 #[.int .i64 n] w fun e w' => e = .returned (.bool (nodeB n)) ∧ w' = w := by
  by_cases h1 : 0 ≤ n
  · by_cases h2 : n ≤ 1048576
    · go_enter Tryz.func69, Tryz.ntmps69
      go_wp2
      go_ret
      exact ⟨ret_bool (decide_eq_true (by omega)).symm, rfl⟩
    · go_enter Tryz.func69, Tryz.ntmps69
      go_wp2
      go_ret
      exact ⟨ret_bool (decide_eq_false (by omega)).symm, rfl⟩
  · go_enter Tryz.func69, Tryz.ntmps69
    go_wp2
    go_ret
    exact ⟨ret_bool (decide_eq_false (by omega)).symm, rfl⟩
theorem inB_node (n : Int) : inB n 0 1048576 = nodeB n := rfl

/-! ### Words -/
theorem take_snocB (s : ByteArray) (k : Nat) (h : k < s.size) : s.data.toList.take (k + 1) = s.data.toList.take k ++ [s[k]] := by
  rw [List.take_succ_eq_append_getElem (by rw [size_toList]; exact h)]; rfl
theorem isW_get (s : ByteArray) (k : Nat) (h : k < s.size) : isW s[k] = (decide (97 ≤ (s[k].toNat : Int)) && decide ((s[k].toNat : Int) ≤ 122) || decide (48 ≤ (s[k].toNat : Int)) && decide ((s[k].toNat : Int) ≤ 57)) := by
  unfold isW
  generalize s[k].toNat = n
  rw [Bool.eq_iff_iff]; simp; omega
theorem all_take (s : ByteArray) (k : Nat) (h : k < s.size) : (s.data.toList.take (k + 1)).all isW = ((s.data.toList.take k).all isW && isW s[k]) := by
  rw [take_snocB s k h, List.all_append]; simp
theorem all_false (s : ByteArray) (k : Nat) (h : k < s.size) (hw : isW s[k] = false) : s.data.toList.all isW = false := by
  rw [List.all_eq_false]
  exact ⟨s[k], Array.mem_toList_iff.2 (Array.getElem_mem _), by simp [hw]⟩
set_option maxHeartbeats 1000000 in
theorem rword_any (s : ByteArray) (w : World) (hs : s.size ≤ maxLen) : Calls Tryz.prog 43 #[.string s] w fun e w' => e = .returned (.bool (wordB s)) ∧ w' = w := by
  unfold maxLen at hs
  go_enter Tryz.func43, Tryz.ntmps43
  go_wp2
  go_loop [7] (fun i => ∃ k : Nat, k ≤ s.size ∧ i = .int .i64 k ∧ Hid ((s.data.toList.take k).all isW = true)) (fun i => s.size - (intOf i).toNat)
  case atStart => exact ⟨0, Nat.zero_le _, rfl, Lib.hid (by simp)⟩
  case round =>
    obtain ⟨k, hk, rfl, ha⟩ := hrel
    by_cases hlt : k < s.size
    · have hW := Lib.hid (isW_get s k hlt)
      have hA := Lib.hid (all_take s k hlt)
      have hF := Lib.hid (all_false s k hlt)
      have hc : (97 ≤ (s[k].toNat : Int) ∧ (s[k].toNat : Int) ≤ 122) ∨ 122 < (s[k].toNat : Int) ∧ 57 < (s[k].toNat : Int) ∧ 97 ≤ (s[k].toNat : Int) ∧ 48 ≤ (s[k].toNat : Int) ∨ ((s[k].toNat : Int) < 97 ∧ 48 ≤ (s[k].toNat : Int) ∧ (s[k].toNat : Int) ≤ 57) ∨ ((s[k].toNat : Int) < 97 ∧ (s[k].toNat : Int) < 48) ∨ ((s[k].toNat : Int) < 97 ∧ 48 ≤ (s[k].toNat : Int) ∧ 57 < (s[k].toNat : Int)) := by omega
      rcases hc with ⟨c1, c2⟩ | ⟨c1, c2, c3, c4⟩ | ⟨c1, c2, c3⟩ | ⟨c1, c2⟩ | ⟨c1, c2, c3⟩
      · go_wp2
        go_round
        case rel => exact ⟨k + 1, by omega, by go_num, Lib.hid (by rw [hA.out, ha.out, hW.out]; simp; omega)⟩
        case measure => simp [intOf]; omega
      · have d1 : decide ((s[k].toNat : Int) ≤ 122) = false := decide_eq_false (by omega)
        have d2 : decide ((s[k].toNat : Int) ≤ 57) = false := decide_eq_false (by omega)
        go_wp2
        go_ret
        exact ⟨ret_bool (by unfold wordB; rw [hF.out (by rw [hW.out]; simp; omega), Bool.and_false]), rfl⟩
      · go_wp2
        go_round
        case rel => exact ⟨k + 1, by omega, by go_num, Lib.hid (by rw [hA.out, ha.out, hW.out]; simp; omega)⟩
        case measure => simp [intOf]; omega
      · go_wp2
        go_ret
        exact ⟨ret_bool (by unfold wordB; rw [hF.out (by rw [hW.out]; simp; omega), Bool.and_false]), rfl⟩
      · have d2 : decide ((s[k].toNat : Int) ≤ 57) = false := decide_eq_false (by omega)
        go_wp2
        go_ret
        exact ⟨ret_bool (by unfold wordB; rw [hF.out (by rw [hW.out]; simp; omega), Bool.and_false]), rfl⟩
    · have hall : Hid (s.data.toList.all isW = true) := by
        have h2 : s.data.toList.take k = s.data.toList := List.take_of_length_le (by rw [size_toList]; omega)
        have := ha.out
        rw [h2] at this
        exact Lib.hid this
      go_wp2_with (go_at_call 21; refine (in_any _ _ _ _).mono ?_; rintro e w' ⟨rfl, rfl⟩)
      go_ret
      refine ⟨ret_bool ?_, rfl⟩
      unfold wordB inB
      rw [hall.out, Bool.and_true, Bool.eq_iff_iff]
      simp; omega
theorem letters_str : (⟨#[97, 98, 99, 100, 101, 102, 103, 104, 105, 106, 107, 108, 109, 110, 111, 112, 113, 114, 115, 116, 117, 118, 119, 120, 121, 122, 48, 49, 50, 51, 52, 53, 54, 55, 56, 57]⟩ : ByteArray).data.toList = letters := rfl
theorem trim_any (s : ByteArray) (w : World) (hs : s.size ≤ maxLen) : Calls Tryz.prog 70 #[.string s, .string ⟨#[97, 98, 99, 100, 101, 102, 103, 104, 105, 106, 107, 108, 109, 110, 111, 112, 113, 114, 115, 116, 117, 118, 119, 120, 121, 122, 48, 49, 50, 51, 52, 53, 54, 55, 56, 57]⟩] w
    fun e w' => (∃ t : ByteArray, e = .returned (.string t) ∧ t.toList.isEmpty = s.data.toList.all isW) ∧ Below w.heap.size w w' :=
  (Any.strings_Trim_laid Tryz.lays160 (by kernel_rfl) s _ w (by unfold maxLen at hs; omega) (by decide) (ascii_of_all (by decide))).mono fun e w' ⟨h1, h2⟩ => ⟨⟨_, h1, by
    rw [letters_str, ByteArray.toList_eq, Bool.eq_iff_iff, ← trim_word]
    show (Lib.trimS s.data.toList letters).isEmpty = true ↔ _
    rw [List.isEmpty_iff]⟩, h2⟩
theorem fword_any (s : ByteArray) (w : World) (hs : s.size ≤ maxLen) : Calls Tryz.prog 52 #[.string s] w fun e w' => e = .returned (.bool (wordB s)) ∧ Below w.heap.size w w' := by
  have hT := trim_any s w hs
  unfold maxLen at hs
  by_cases h1 : 1 ≤ s.size
  · by_cases h2 : s.size ≤ 12
    · have e0 : wordB s = s.data.toList.all isW := by unfold wordB; simp [h1, h2]
      rw [e0]
      clear e0
      have HT := Lib.hid hT
      clear hT
      go_enter Tryz.func52, Tryz.ntmps52
      go_wp2_with (go_at_call 70; refine HT.out.mono ?_; rintro e w' ⟨⟨t, rfl, ht⟩, hb⟩; have Ht := Lib.hid ht; clear ht)
      go_ret
      exact ⟨ret_bool Ht.out, hb⟩
    · go_enter Tryz.func52, Tryz.ntmps52
      go_wp2
      go_ret
      exact ⟨ret_bool (by unfold wordB; simp [h2]), Below.refl _ _⟩
  · go_enter Tryz.func52, Tryz.ntmps52
    go_wp2
    go_ret
    exact ⟨ret_bool (by unfold wordB; simp [h1]), Below.refl _ _⟩
end Go.Proofs.YtjgmgaleaihjpaaGreatDoor
