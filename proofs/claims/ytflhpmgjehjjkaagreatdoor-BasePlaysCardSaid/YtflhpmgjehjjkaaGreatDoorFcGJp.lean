/- The document's Write. The condition: the library's table of powers of ten is as its own text lays it. -/
import Derived.Laws.AppendOwnNone
import Derived.Shelf.Strings.SlTrimAscii
import Derived.Lib.AppendIntMem
import Derived.Lib.ItoaLen
import Derived.Test.YtflhpmgjehjjkaaGreatDoorRowJp
import Derived.Test.YtflhpmgjehjjkaaGreatDoorSpanCJp
import Derived.Test.YtflhpmgjehjjkaaGreatDoorShelfJp
import Derived.Test.YtflhpmgjehjjkaaGreatDoorDag2Jp
import Derived.Test.YtflhpmgjehjjkaaGreatDoorFactMJp
namespace Go.Proofs.YtflhpmgjehjjkaaGreatDoor
open Go.RowKit Go.Shelf Go.Sort
open Go.RowKit
theorem size_toList (s : ByteArray) : s.data.toList.length = s.size := Array.length_toList
theorem empty_eq (s : ByteArray) : s.toList.isEmpty = decide (s.size = 0) := by
 rw [ByteArray.toList_eq, <- size_toList]
 cases s.data.toList <;> simp
theorem empty_true {s : ByteArray} (h : s.size = 0) : s.toList.isEmpty = true := by rw [empty_eq]; simpa using h
theorem empty_false {s : ByteArray} (h : ¬ s.size = 0) : s.toList.isEmpty = false := by rw [empty_eq]; simpa using h
theorem dash_no {s : ByteArray} (h : ¬ s.size = 0) : (⟨(dashL s).toArray⟩ : ByteArray) = s := by unfold dashL; rw [if_neg h]
theorem dash_yes {s : ByteArray} (h : s.size = 0) : dashL s = [45] := by unfold dashL; rw [if_pos h]
theorem dashF_any (s : ByteArray) (w : World) : Calls Tryz.prog 92 #[.string s] w fun e w' => e = .returned (.string ⟨(dashL s).toArray⟩) /\ w' = w := by
 by_cases h : s.size = 0
 · have h1 := empty_true h
   rw [dash_yes h]
   go_enter Tryz.func92, Tryz.ntmps92
   go_wp2
   go_ret
   exact ⟨rfl, rfl⟩
 · have h1 := empty_false h
   rw [dash_no h]
   go_enter Tryz.func92, Tryz.ntmps92
   go_wp2
   go_ret
   exact ⟨rfl, rfl⟩
theorem dashR_any (s : ByteArray) (w : World) : Calls Tryz.prog 113 #[.string s] w fun e w' => e = .returned (.string ⟨(dashL s).toArray⟩) /\ w' = w := by
 by_cases h : s.size = 0
 · have h1 := empty_true h
   rw [dash_yes h]
   go_enter Tryz.func113, Tryz.ntmps113
   go_wp2
   go_ret
   exact ⟨rfl, rfl⟩
 · have h1 := empty_false h
   rw [dash_no h]
   go_enter Tryz.func113, Tryz.ntmps113
   go_wp2
   go_ret
   exact ⟨rfl, rfl⟩
theorem sign_any (b : Bool) (w : World) : Calls Tryz.prog 146 #[.bool b] w fun e w' => e = .returned (.int .i64 (sgn b)) /\ w' = w := by
 go_enter Tryz.func146, Tryz.ntmps146
 cases b
 all_goals
  go_wp2
  go_ret
  exact ⟨rfl, rfl⟩
theorem key1_any (n : Int) (w : World) : Calls Tryz.prog 126 #[.int .i64 n] w fun e w' => e = .returned (.bool (nodeB n)) /\ w' = w := by
 by_cases h1 : 0 <= n
 · by_cases h2 : n <= 1048576
   · go_enter Tryz.func126, Tryz.ntmps126
     go_wp2
     go_ret
     exact ⟨ret_bool (decide_eq_true (by omega)).symm, rfl⟩
   · go_enter Tryz.func126, Tryz.ntmps126
     go_wp2
     go_ret
     exact ⟨ret_bool (decide_eq_false (by omega)).symm, rfl⟩
 · go_enter Tryz.func126, Tryz.ntmps126
   go_wp2
   go_ret
   exact ⟨ret_bool (decide_eq_false (by omega)).symm, rfl⟩
theorem take_snocB (s : ByteArray) (k : Nat) (h : k < s.size) : s.data.toList.take (k + 1) = s.data.toList.take k ++ [s[k]] := by
 rw [List.take_succ_eq_append_getElem (by rw [size_toList]; exact h)]; rfl
theorem isW_get (s : ByteArray) (k : Nat) (h : k < s.size) : isW s[k] = (decide (97 <= (s[k].toNat : Int)) && decide ((s[k].toNat : Int) <= 122) || decide (48 <= (s[k].toNat : Int)) && decide ((s[k].toNat : Int) <= 57)) := by
 unfold isW
 generalize s[k].toNat = n
 rw [Bool.eq_iff_iff]; simp; omega
theorem all_take (s : ByteArray) (k : Nat) (h : k < s.size) : (s.data.toList.take (k + 1)).all isW = ((s.data.toList.take k).all isW && isW s[k]) := by
 rw [take_snocB s k h, List.all_append]; simp
theorem all_false (s : ByteArray) (k : Nat) (h : k < s.size) (hw : isW s[k] = false) : s.data.toList.all isW = false := by
 rw [List.all_eq_false]
 exact ⟨s[k], Array.mem_toList_iff.2 (Array.getElem_mem _), by simp [hw]⟩
set_option maxHeartbeats 1000000 in
theorem rword_any (s : ByteArray) (w : World) (hs : s.size <= maxLen) : Calls Tryz.prog 161 #[.string s] w fun e w' => e = .returned (.bool (wordB s)) /\ w' = w := by
 unfold maxLen at hs
 go_enter Tryz.func161, Tryz.ntmps161
 go_wp2
 go_loop [7] (fun i => ∃ k : Nat, k <= s.size /\ i = .int .i64 k /\ Hid ((s.data.toList.take k).all isW = true)) (fun i => s.size - (intOf i).toNat)
 case atStart => exact ⟨0, Nat.zero_le _, rfl, Lib.hid (by simp)⟩
 case round =>
  obtain ⟨k, hk, rfl, ha⟩ := hrel
  by_cases hlt : k < s.size
  · have hW := Lib.hid (isW_get s k hlt)
    have hA := Lib.hid (all_take s k hlt)
    have hF := Lib.hid (all_false s k hlt)
    have hc : (97 <= (s[k].toNat : Int) /\ (s[k].toNat : Int) <= 122) \/ 122 < (s[k].toNat : Int) /\ 57 < (s[k].toNat : Int) /\ 97 <= (s[k].toNat : Int) /\ 48 <= (s[k].toNat : Int) \/ ((s[k].toNat : Int) < 97 /\ 48 <= (s[k].toNat : Int) /\ (s[k].toNat : Int) <= 57) \/ ((s[k].toNat : Int) < 97 /\ (s[k].toNat : Int) < 48) \/ ((s[k].toNat : Int) < 97 /\ 48 <= (s[k].toNat : Int) /\ 57 < (s[k].toNat : Int)) := by omega
    rcases hc with ⟨c1, c2⟩ | ⟨c1, c2, c3, c4⟩ | ⟨c1, c2, c3⟩ | ⟨c1, c2⟩ | ⟨c1, c2, c3⟩
    · go_wp2
      go_round
      case rel => exact ⟨k + 1, by omega, by go_num, Lib.hid (by rw [hA.out, ha.out, hW.out]; simp; omega)⟩
      case measure => simp [intOf]; omega
    · have d1 : decide ((s[k].toNat : Int) <= 122) = false := decide_eq_false (by omega)
      have d2 : decide ((s[k].toNat : Int) <= 57) = false := decide_eq_false (by omega)
      go_wp2
      go_ret
      exact ⟨ret_bool (by unfold wordB; rw [hF.out (by rw [hW.out]; simp; omega), Bool.and_false]), rfl⟩
    · go_wp2
      go_round
      case rel => exact ⟨k + 1, by omega, by go_num, Lib.hid (by rw [hA.out, ha.out, hW.out]; simp; omega)⟩
      case measure => simp [intOf]; omega
    · go_wp2
      go_ret
      exact ⟨ret_bool (by unfold wordB; rw [hF.out (by rw [hW.out]; simp; omega), Bool.and_false]), rfl⟩
    · have d2 : decide ((s[k].toNat : Int) <= 57) = false := decide_eq_false (by omega)
      go_wp2
      go_ret
      exact ⟨ret_bool (by unfold wordB; rw [hF.out (by rw [hW.out]; simp; omega), Bool.and_false]), rfl⟩
  · have hall : Hid (s.data.toList.all isW = true) := by
     have h2 : s.data.toList.take k = s.data.toList := List.take_of_length_le (by rw [size_toList]; omega)
     have := ha.out
     rw [h2] at this
     exact Lib.hid this
    go_wp2_with (go_at_call 66; refine (in_any _ _ _ _).mono ?_; rintro e w' ⟨rfl, rfl⟩)
    go_ret
    refine ⟨ret_bool ?_, rfl⟩
    unfold wordB inB
    rw [hall.out, Bool.and_true, Bool.eq_iff_iff]
    simp; omega
theorem letters_str : (⟨#[97, 98, 99, 100, 101, 102, 103, 104, 105, 106, 107, 108, 109, 110, 111, 112, 113, 114, 115, 116, 117, 118, 119, 120, 121, 122, 48, 49, 50, 51, 52, 53, 54, 55, 56, 57]⟩ : ByteArray).data.toList = letters := rfl
theorem trim_any (s : ByteArray) (w : World) (hs : s.size <= maxLen) : Calls Tryz.prog 171 #[.string s, .string ⟨#[97, 98, 99, 100, 101, 102, 103, 104, 105, 106, 107, 108, 109, 110, 111, 112, 113, 114, 115, 116, 117, 118, 119, 120, 121, 122, 48, 49, 50, 51, 52, 53, 54, 55, 56, 57]⟩] w
  fun e w' => (∃ t : ByteArray, e = .returned (.string t) /\ t.toList.isEmpty = s.data.toList.all isW) /\ Below w.heap.size w w' :=
 (Any.strings_Trim_laid Tryz.lays160 (by kernel_rfl) s _ w (by unfold maxLen at hs; omega) (by decide) (ascii_of_all (by decide))).mono fun e w' ⟨h1, h2⟩ => ⟨⟨_, h1, by
  rw [letters_str, ByteArray.toList_eq, Bool.eq_iff_iff, <- trim_word]
  show (Lib.trimS s.data.toList letters).isEmpty = true ↔ _
  rw [List.isEmpty_iff]⟩, h2⟩
theorem fword_any (s : ByteArray) (w : World) (hs : s.size <= maxLen) : Calls Tryz.prog 127 #[.string s] w fun e w' => e = .returned (.bool (wordB s)) /\ Below w.heap.size w w' := by
 have hT := trim_any s w hs
 unfold maxLen at hs
 by_cases h1 : 1 <= s.size
 · by_cases h2 : s.size <= 12
   · have e0 : wordB s = s.data.toList.all isW := by unfold wordB; simp [h1, h2]
     rw [e0]
     clear e0
     have HT := Lib.hid hT
     clear hT
     go_enter Tryz.func127, Tryz.ntmps127
     go_wp2_with (go_at_call 171; refine HT.out.mono ?_; rintro e w' ⟨⟨t, rfl, ht⟩, hb⟩; have Ht := Lib.hid ht; clear ht)
     go_ret
     exact ⟨ret_bool Ht.out, hb⟩
   · go_enter Tryz.func127, Tryz.ntmps127
     go_wp2
     go_ret
     exact ⟨ret_bool (by unfold wordB; simp [h2]), Below.refl _ _⟩
 · go_enter Tryz.func127, Tryz.ntmps127
   go_wp2
   go_ret
   exact ⟨ret_bool (by unfold wordB; simp [h1]), Below.refl _ _⟩
theorem keyB_1 (a b : Int) (s : ByteArray) : keyB ⟨1, a, s, b⟩ = (nodeB a && (decide (s.size = 0) && decide (b = 0))) := rfl
theorem keyB_2 (a b : Int) (s : ByteArray) : keyB ⟨2, a, s, b⟩ = (nodeB a && (nodeB b && wordB s)) := rfl
theorem keyB_3 (a b : Int) (s : ByteArray) : keyB ⟨3, a, s, b⟩ = (nodeB a && (wordB s && decide (b = 0))) := rfl
theorem keyB_else (k a b : Int) (s : ByteArray) (h1 : k ≠ 1) (h2 : k ≠ 2) (h3 : k ≠ 3) : keyB ⟨k, a, s, b⟩ = false := by
 unfold keyB; simp [h1, h2, h3]
set_option maxHeartbeats 2000000 in
theorem fkey_any (k a b : Int) (s : ByteArray) (w : World) (hs : s.size <= maxLen) :
  Calls Tryz.prog 74 #[.agg #[.int .i64 k, .int .i64 a, .string s, .int .i64 b]] w fun e w' => e = .returned (.bool (keyB ⟨k, a, s, b⟩)) /\ Below w.heap.size w w' := by
 have hs0 := hs
 unfold maxLen at hs
 have bA : Below w.heap.size w (w.alloc (.cells #[.int .i64 k, .int .i64 a, .string s, .int .i64 b] 44)) := (Below.refl _ w).alloc (Nat.le_refl _) _
 by_cases k1 : k = 1
 · subst k1
   rw [keyB_1]
   cases hn : nodeB a
   · go_enter Tryz.func74, Tryz.ntmps74
     go_wp2_with (go_at_call 126; refine (key1_any _ _).mono ?_; rintro e w' ⟨rfl, rfl⟩)
     go_ret
     exact ⟨rfl, bA⟩
   · by_cases h0 : s.size = 0
     · have e1 := empty_true h0
       rw [h0]
       by_cases hb : b = 0
       · subst hb
         go_enter Tryz.func74, Tryz.ntmps74
         go_wp2_with (go_at_call 126; refine (key1_any _ _).mono ?_; rintro e w' ⟨rfl, rfl⟩)
         go_ret
         exact ⟨rfl, bA⟩
       · have hb1 : ((b : Int) == 0) = false := by simpa using hb
         have hb2 : decide (b = 0) = false := decide_eq_false hb
         go_enter Tryz.func74, Tryz.ntmps74
         go_wp2_with (go_at_call 126; refine (key1_any _ _).mono ?_; rintro e w' ⟨rfl, rfl⟩)
         go_ret
         exact ⟨by rw [hb2]; rfl, bA⟩
     · have e1 := empty_false h0
       have h2 : decide (s.size = 0) = false := decide_eq_false h0
       rw [h2]
       clear h2
       go_enter Tryz.func74, Tryz.ntmps74
       go_wp2_with (go_at_call 126; refine (key1_any _ _).mono ?_; rintro e w' ⟨rfl, rfl⟩)
       go_ret
       exact ⟨rfl, bA⟩
 · have n1 : ((k : Int) == 1) = false := by simpa using k1
   by_cases k2 : k = 2
   · subst k2
     rw [keyB_2]
     cases hn : nodeB a
     · go_enter Tryz.func74, Tryz.ntmps74
       go_wp2_with (go_at_call 126; refine (key1_any _ _).mono ?_; rintro e w' ⟨rfl, rfl⟩)
       go_ret
       exact ⟨rfl, bA⟩
     · cases hm : nodeB b
       · go_enter Tryz.func74, Tryz.ntmps74
         go_wp2_with (go_at_call 126; refine (key1_any _ _).mono ?_; rintro e w' ⟨rfl, rfl⟩)
         go_ret
         exact ⟨rfl, bA⟩
       · go_enter Tryz.func74, Tryz.ntmps74
         go_wp2_with (first | (go_at_call 126; refine (key1_any _ _).mono ?_; rintro e w' ⟨rfl, rfl⟩) | (go_at_call 127; refine (fword_any _ _ hs0).mono ?_; rintro e w' ⟨rfl, hb⟩))
         go_ret
         exact ⟨rfl, below_over hb⟩
   · have n2 : ((k : Int) == 2) = false := by simpa using k2
     by_cases k3 : k = 3
     · subst k3
       rw [keyB_3]
       cases hn : nodeB a
       · go_enter Tryz.func74, Tryz.ntmps74
         go_wp2_with (go_at_call 126; refine (key1_any _ _).mono ?_; rintro e w' ⟨rfl, rfl⟩)
         go_ret
         exact ⟨rfl, bA⟩
       · cases hw : wordB s
         · go_enter Tryz.func74, Tryz.ntmps74
           go_wp2_with (first | (go_at_call 126; refine (key1_any _ _).mono ?_; rintro e w' ⟨rfl, rfl⟩) | (go_at_call 127; refine (fword_any _ _ hs0).mono ?_; rintro e w' ⟨rfl, hb⟩))
           go_ret
           exact ⟨rfl, below_over hb⟩
         · have c3 : (w.alloc (.cells #[.int .i64 3, .int .i64 a, .string s, .int .i64 b] 44)).cell? ⟨w.heap.size, 3, none⟩ = some (.int .i64 b) := by simp
           by_cases hb : b = 0
           · subst hb
             go_enter Tryz.func74, Tryz.ntmps74
             go_wp2_with (first | (go_at_call 126; refine (key1_any _ _).mono ?_; rintro e w' ⟨rfl, rfl⟩) | (go_at_call 127; refine (fword_any _ _ hs0).mono ?_; rintro e w' ⟨rfl, hb⟩; have d3 := below_cell hb (by simp) c3))
             go_ret
             exact ⟨rfl, below_over hb⟩
           · have hb1 : ((b : Int) == 0) = false := by simpa using hb
             have hb2 : decide (b = 0) = false := decide_eq_false hb
             go_enter Tryz.func74, Tryz.ntmps74
             go_wp2_with (first | (go_at_call 126; refine (key1_any _ _).mono ?_; rintro e w' ⟨rfl, rfl⟩) | (go_at_call 127; refine (fword_any _ _ hs0).mono ?_; rintro e w' ⟨rfl, hb⟩; have d3 := below_cell hb (by simp) c3))
             go_ret
             exact ⟨by rw [hb2]; rfl, below_over hb⟩
     · have n3 : ((k : Int) == 3) = false := by simpa using k3
       rw [keyB_else k a b s k1 k2 k3]
       go_enter Tryz.func74, Tryz.ntmps74
       go_wp2
       go_ret
       exact ⟨rfl, bA⟩
set_option maxHeartbeats 2000000 in
theorem rkey_any (k a b : Int) (s : ByteArray) (w : World) (hs : s.size <= maxLen) :
  Calls Tryz.prog 131 #[.agg #[.int .i64 k, .int .i64 a, .string s, .int .i64 b]] w fun e w' => e = .returned (.bool (keyB ⟨k, a, s, b⟩)) /\ Below w.heap.size w w' := by
 have hs0 := hs
 unfold maxLen at hs
 have bA : Below w.heap.size w (w.alloc (.cells #[.int .i64 k, .int .i64 a, .string s, .int .i64 b] 44)) := (Below.refl _ w).alloc (Nat.le_refl _) _
 have hA : ∀ W, Calls Tryz.prog 66 #[.int .i64 a, .int .i64 0, .int .i64 1048576] W fun e w' => e = .returned (.bool (nodeB a)) /\ W = w' := fun W => in_any _ _ _ _
 have hB : ∀ W, Calls Tryz.prog 66 #[.int .i64 b, .int .i64 0, .int .i64 1048576] W fun e w' => e = .returned (.bool (nodeB b)) /\ W = w' := fun W => in_any _ _ _ _
 have hW : ∀ W, Calls Tryz.prog 161 #[.string s] W fun e w' => e = .returned (.bool (wordB s)) /\ w' = W := fun W => rword_any _ _ hs0
 cases hn : nodeB a
 · have e0 : keyB ⟨k, a, s, b⟩ = false := by
    unfold keyB
    simp only [hn, Bool.false_and]
    split
    · rfl
    · split
      · rfl
      · split <;> rfl
   rw [e0]
   clear e0
   go_enter Tryz.func131, Tryz.ntmps131
   go_wp2_with (go_at_call 66; refine (hA _).mono ?_; rintro e w' ⟨rfl, rfl⟩)
   go_ret
   exact ⟨rfl, bA⟩
 · by_cases k1 : k = 1
   · subst k1
     rw [keyB_1, hn]
     by_cases h0 : s.size = 0
     · have e1 := empty_true h0
       rw [h0]
       by_cases hb : b = 0
       · subst hb
         go_enter Tryz.func131, Tryz.ntmps131
         go_wp2_with (go_at_call 66; refine (hA _).mono ?_; rintro e w' ⟨rfl, rfl⟩)
         go_ret
         exact ⟨rfl, bA⟩
       · have hb1 : ((b : Int) == 0) = false := by simpa using hb
         have hb2 : decide (b = 0) = false := decide_eq_false hb
         go_enter Tryz.func131, Tryz.ntmps131
         go_wp2_with (go_at_call 66; refine (hA _).mono ?_; rintro e w' ⟨rfl, rfl⟩)
         go_ret
         exact ⟨by rw [hb2]; rfl, bA⟩
     · have e1 := empty_false h0
       have h2 : decide (s.size = 0) = false := decide_eq_false h0
       rw [h2]
       clear h2
       go_enter Tryz.func131, Tryz.ntmps131
       go_wp2_with (go_at_call 66; refine (hA _).mono ?_; rintro e w' ⟨rfl, rfl⟩)
       go_ret
       exact ⟨rfl, bA⟩
   · have n1 : ((k : Int) == 1) = false := by simpa using k1
     by_cases k2 : k = 2
     · subst k2
       rw [keyB_2, hn]
       cases hw : wordB s
       · go_enter Tryz.func131, Tryz.ntmps131
         go_wp2_with (first | (go_at_call 66; refine (hA _).mono ?_; rintro e w' ⟨rfl, rfl⟩) | (go_at_call 161; refine (hW _).mono ?_; rintro e w' ⟨rfl, rfl⟩))
         go_ret
         exact ⟨by rw [Bool.and_false]; rfl, bA⟩
       · go_enter Tryz.func131, Tryz.ntmps131
         go_wp2_with (first | (go_at_call 66; (with_reducible refine (hA _).mono ?_); rintro e w' ⟨rfl, rfl⟩) | (go_at_call 66; (with_reducible refine (hB _).mono ?_); rintro e w' ⟨rfl, rfl⟩) | (go_at_call 161; refine (hW _).mono ?_; rintro e w' ⟨rfl, rfl⟩))
         go_ret
         exact ⟨by rw [Bool.and_true]; rfl, bA⟩
     · have n2 : ((k : Int) == 2) = false := by simpa using k2
       by_cases k3 : k = 3
       · subst k3
         rw [keyB_3, hn]
         cases hw : wordB s
         · go_enter Tryz.func131, Tryz.ntmps131
           go_wp2_with (first | (go_at_call 66; refine (hA _).mono ?_; rintro e w' ⟨rfl, rfl⟩) | (go_at_call 161; refine (hW _).mono ?_; rintro e w' ⟨rfl, rfl⟩))
           go_ret
           exact ⟨rfl, bA⟩
         · by_cases hb : b = 0
           · subst hb
             go_enter Tryz.func131, Tryz.ntmps131
             go_wp2_with (first | (go_at_call 66; refine (hA _).mono ?_; rintro e w' ⟨rfl, rfl⟩) | (go_at_call 161; refine (hW _).mono ?_; rintro e w' ⟨rfl, rfl⟩))
             go_ret
             exact ⟨rfl, bA⟩
           · have hb1 : ((b : Int) == 0) = false := by simpa using hb
             have hb2 : decide (b = 0) = false := decide_eq_false hb
             go_enter Tryz.func131, Tryz.ntmps131
             go_wp2_with (first | (go_at_call 66; refine (hA _).mono ?_; rintro e w' ⟨rfl, rfl⟩) | (go_at_call 161; refine (hW _).mono ?_; rintro e w' ⟨rfl, rfl⟩))
             go_ret
             exact ⟨by rw [hb2]; rfl, bA⟩
       · have n3 : ((k : Int) == 3) = false := by simpa using k3
         rw [keyB_else k a b s k1 k2 k3]
         go_enter Tryz.func131, Tryz.ntmps131
         go_wp2_with (go_at_call 66; refine (hA _).mono ?_; rintro e w' ⟨rfl, rfl⟩)
         go_ret
         exact ⟨rfl, bA⟩
set_option maxHeartbeats 1000000 in
theorem rless_any (k a b k' a' b' : Int) (s s' : ByteArray) (w : World) :
  Calls Tryz.prog 118 #[.agg #[.int .i64 k, .int .i64 a, .string s, .int .i64 b], .agg #[.int .i64 k', .int .i64 a', .string s', .int .i64 b']] w fun e w' => e = .returned (.bool (keyLess ⟨k, a, s, b⟩ ⟨k', a', s', b'⟩)) /\ Below w.heap.size w w' := by
 have bA : Below w.heap.size w ((w.alloc (.cells #[.int .i64 k, .int .i64 a, .string s, .int .i64 b] 44)).alloc (.cells #[.int .i64 k', .int .i64 a', .string s', .int .i64 b'] 44)) := ((Below.refl _ w).alloc (Nat.le_refl _) _).alloc (by simp) _
 have f1 : (k != k') = true -> keyLess ⟨k, a, s, b⟩ ⟨k', a', s', b'⟩ = decide (k < k') := fun h => by
  have h' : k ≠ k' := by simpa using h
  unfold keyLess; simp only [ne_eq, h', not_false_eq_true, if_true]
 have f2 : (k != k') = false -> (a != a') = true -> keyLess ⟨k, a, s, b⟩ ⟨k', a', s', b'⟩ = decide (a < a') := fun h1 h2 => by
  have h1' : k = k' := by simpa using h1
  have h2' : a ≠ a' := by simpa using h2
  unfold keyLess; simp only [ne_eq, h1', h2', not_true_eq_false, not_false_eq_true, if_true, if_false]
 have f3 : (k != k') = false -> (a != a') = false -> (!s.toList == s'.toList) = true -> keyLess ⟨k, a, s, b⟩ ⟨k', a', s', b'⟩ = Op.bytesLess s.toList s'.toList := fun h1 h2 h3 => by
  have h1' : k = k' := by simpa using h1
  have h2' : a = a' := by simpa using h2
  have h3' : s ≠ s' := fun e => by subst e; simp at h3
  unfold keyLess; simp only [ne_eq, h1', h2', h3', not_true_eq_false, not_false_eq_true, if_true, if_false]
  rw [ByteArray.toList_eq, ByteArray.toList_eq]
 have f4 : (k != k') = false -> (a != a') = false -> (!s.toList == s'.toList) = false -> keyLess ⟨k, a, s, b⟩ ⟨k', a', s', b'⟩ = decide (b < b') := fun h1 h2 h3 => by
  have h1' : k = k' := by simpa using h1
  have h2' : a = a' := by simpa using h2
  have h3' : s = s' := by
   have h4 : s.toList = s'.toList := by simpa using h3
   rw [ByteArray.toList_eq, ByteArray.toList_eq] at h4
   exact bytes_ext h4
  unfold keyLess; simp only [ne_eq, h1', h2', h3', not_true_eq_false, if_false]
 have F1 := Lib.hid f1
 have F2 := Lib.hid f2
 have F3 := Lib.hid f3
 have F4 := Lib.hid f4
 clear f1 f2 f3 f4
 generalize keyLess ⟨k, a, s, b⟩ ⟨k', a', s', b'⟩ = r at *
 go_enter Tryz.func118, Tryz.ntmps118
 go_wp2
 all_goals
  go_ret
  first
   | exact ⟨ret_bool (F1.out (by assumption)).symm, bA⟩
   | exact ⟨ret_bool (F2.out (by assumption) (by assumption)).symm, bA⟩
   | exact ⟨ret_bool (F3.out (by assumption) (by assumption) (by assumption)).symm, bA⟩
   | exact ⟨ret_bool (F4.out (by assumption) (by assumption) (by assumption)).symm, bA⟩
theorem cmpArr (x y z u : Int) : ∀ w, (Instr.index 248 (.agg #[.int .i64 x, .int .i64 y, .int .i64 z, .int .i64 u]) (.int .i64 0)).run Tryz.prog w = .ok (.agg #[.int .i64 x, .int .i64 y]) w ∧
  (Instr.index 248 (.agg #[.int .i64 x, .int .i64 y, .int .i64 z, .int .i64 u]) (.int .i64 1)).run Tryz.prog w = .ok (.agg #[.int .i64 z, .int .i64 u]) w := fun w => ⟨by kernel_rfl, by kernel_rfl⟩
theorem opB_mk (k a b f t : Int) (s v : ByteArray) : opB ⟨⟨k, a, s, b⟩, f, t, v⟩ = (keyB ⟨k, a, s, b⟩ && (rightB f t && (decide (v.size = 0) || wordB v))) := rfl
set_option maxHeartbeats 1000000 in
theorem fop_any (k a b f t : Int) (s v : ByteArray) (w : World) (hs : s.size <= maxLen) (hv : v.size <= maxLen) :
  Calls Tryz.prog 91 #[.agg #[.int .i64 k, .int .i64 a, .string s, .int .i64 b, .int .i64 f, .int .i64 t, .string v]] w fun e w' => e = .returned (.bool (opB ⟨⟨k, a, s, b⟩, f, t, v⟩)) /\ Below w.heap.size w w' := by
 obtain ⟨W, hW⟩ : ∃ W, W = w.alloc (.cells #[.int .i64 k, .int .i64 a, .string s, .int .i64 b, .int .i64 f, .int .i64 t, .string v] 70) := ⟨_, rfl⟩
 have bA : Below w.heap.size w W := by rw [hW]; exact (Below.refl _ w).alloc (Nat.le_refl _) _
 have hwW : w.heap.size < W.heap.size := by rw [hW]; simp
 have c0 : W.cell? ⟨w.heap.size, 0, none⟩ = some (.int .i64 k) := by rw [hW]; simp
 have c1 : W.cell? ⟨w.heap.size, 1, none⟩ = some (.int .i64 a) := by rw [hW]; simp
 have c2 : W.cell? ⟨w.heap.size, 2, none⟩ = some (.string s) := by rw [hW]; simp
 have c3 : W.cell? ⟨w.heap.size, 3, none⟩ = some (.int .i64 b) := by rw [hW]; simp
 have c4 : W.cell? ⟨w.heap.size, 4, none⟩ = some (.int .i64 f) := by rw [hW]; simp
 have c5 : W.cell? ⟨w.heap.size, 5, none⟩ = some (.int .i64 t) := by rw [hW]; simp
 have c6 : W.cell? ⟨w.heap.size, 6, none⟩ = some (.string v) := by rw [hW]; simp
 have HW := Lib.hid hW
 clear hW
 have hK := fun W' => fkey_any k a b s W' hs
 have hR := fun W' => right_any f t W'
 have hF := fun W' => fword_any v W' hv
 rw [opB_mk]
 cases e1 : keyB ⟨k, a, s, b⟩
 · simp only [e1] at hK
   go_enter Tryz.func91, Tryz.ntmps91
   go_wp2_with fail
   rw [<- HW.out]
   go_wp2_with (go_at_call 74; refine (hK _).mono ?_; rintro e w1 ⟨rfl, h1⟩)
   go_ret
   exact ⟨rfl, below_step bA h1⟩
 · simp only [e1] at hK
   cases e2 : rightB f t
   · simp only [e2] at hR
     go_enter Tryz.func91, Tryz.ntmps91
     go_wp2_with fail
     rw [<- HW.out]
     go_wp2_with (first | (go_at_call 74; refine (hK _).mono ?_; rintro e w1 ⟨rfl, h1⟩; have d4 := below_cell h1 hwW c4; have d5 := below_cell h1 hwW c5) | (go_at_call 135; refine (hR _).mono ?_; rintro e w2 ⟨rfl, h2⟩))
     go_ret
     exact ⟨rfl, below_step (below_step bA h1) h2⟩
   · simp only [e2] at hR
     by_cases h0 : v.size = 0
     · have e3 := empty_true h0
       rw [h0]
       go_enter Tryz.func91, Tryz.ntmps91
       go_wp2_with fail
       rw [<- HW.out]
       go_wp2_with (first | (go_at_call 74; refine (hK _).mono ?_; rintro e w1 ⟨rfl, h1⟩; have d4 := below_cell h1 hwW c4; have d5 := below_cell h1 hwW c5; have d6 := below_cell h1 hwW c6; have hz := Nat.lt_of_lt_of_le hwW h1.size) | (go_at_call 135; refine (hR _).mono ?_; rintro e w2 ⟨rfl, h2⟩; have g6 := below_cell h2 hz d6))
       go_ret
       exact ⟨rfl, below_step (below_step bA h1) h2⟩
     · have e3 := empty_false h0
       have h0' : decide (v.size = 0) = false := decide_eq_false h0
       rw [h0']
       clear h0'
       go_enter Tryz.func91, Tryz.ntmps91
       go_wp2_with fail
       rw [<- HW.out]
       go_wp2_with (first | (go_at_call 74; refine (hK _).mono ?_; rintro e w1 ⟨rfl, h1⟩; have d4 := below_cell h1 hwW c4; have d5 := below_cell h1 hwW c5; have d6 := below_cell h1 hwW c6; have hz := Nat.lt_of_lt_of_le hwW h1.size) | (go_at_call 135; refine (hR _).mono ?_; rintro e w2 ⟨rfl, h2⟩; have g6 := below_cell h2 hz d6) | (go_at_call 127; refine (hF _).mono ?_; rintro e w3 ⟨rfl, h3⟩))
       go_ret
       exact ⟨rfl, below_step (below_step (below_step bA h1) h2) h3⟩
set_option maxHeartbeats 1000000 in
theorem rop_any (k a b f t : Int) (s v : ByteArray) (w : World) (hs : s.size <= maxLen) (hv : v.size <= maxLen) :
  Calls Tryz.prog 110 #[.agg #[.int .i64 k, .int .i64 a, .string s, .int .i64 b, .int .i64 f, .int .i64 t, .string v]] w fun e w' => e = .returned (.bool (opB ⟨⟨k, a, s, b⟩, f, t, v⟩)) /\ Below w.heap.size w w' := by
 obtain ⟨W, hW⟩ : ∃ W, W = w.alloc (.cells #[.int .i64 k, .int .i64 a, .string s, .int .i64 b, .int .i64 f, .int .i64 t, .string v] 70) := ⟨_, rfl⟩
 have bA : Below w.heap.size w W := by rw [hW]; exact (Below.refl _ w).alloc (Nat.le_refl _) _
 have hwW : w.heap.size < W.heap.size := by rw [hW]; simp
 have c0 : W.cell? ⟨w.heap.size, 0, none⟩ = some (.int .i64 k) := by rw [hW]; simp
 have c1 : W.cell? ⟨w.heap.size, 1, none⟩ = some (.int .i64 a) := by rw [hW]; simp
 have c2 : W.cell? ⟨w.heap.size, 2, none⟩ = some (.string s) := by rw [hW]; simp
 have c3 : W.cell? ⟨w.heap.size, 3, none⟩ = some (.int .i64 b) := by rw [hW]; simp
 have c4 : W.cell? ⟨w.heap.size, 4, none⟩ = some (.int .i64 f) := by rw [hW]; simp
 have c5 : W.cell? ⟨w.heap.size, 5, none⟩ = some (.int .i64 t) := by rw [hW]; simp
 have c6 : W.cell? ⟨w.heap.size, 6, none⟩ = some (.string v) := by rw [hW]; simp
 have HW := Lib.hid hW
 clear hW
 have hK := fun W' => rkey_any k a b s W' hs
 have hR := fun W' => rright_any f t W'
 have hF : ∀ W', Calls Tryz.prog 161 #[.string v] W' fun e w' => e = .returned (.bool (wordB v)) /\ w' = W' := fun W' => rword_any v W' hv
 rw [opB_mk]
 cases e1 : keyB ⟨k, a, s, b⟩
 · simp only [e1] at hK
   go_enter Tryz.func110, Tryz.ntmps110
   go_wp2_with fail
   rw [<- HW.out]
   go_wp2_with (go_at_call 131; refine (hK _).mono ?_; rintro e w1 ⟨rfl, h1⟩)
   go_ret
   exact ⟨rfl, below_step bA h1⟩
 · simp only [e1] at hK
   cases e2 : rightB f t
   · simp only [e2] at hR
     go_enter Tryz.func110, Tryz.ntmps110
     go_wp2_with fail
     rw [<- HW.out]
     go_wp2_with (first | (go_at_call 131; refine (hK _).mono ?_; rintro e w1 ⟨rfl, h1⟩; have d4 := below_cell h1 hwW c4; have d5 := below_cell h1 hwW c5) | (go_at_call 133; refine (hR _).mono ?_; rintro e w2 ⟨rfl, h2⟩))
     go_ret
     exact ⟨rfl, below_step (below_step bA h1) h2⟩
   · simp only [e2] at hR
     by_cases h0 : v.size = 0
     · have e3 := empty_true h0
       rw [h0]
       go_enter Tryz.func110, Tryz.ntmps110
       go_wp2_with fail
       rw [<- HW.out]
       go_wp2_with (first | (go_at_call 131; refine (hK _).mono ?_; rintro e w1 ⟨rfl, h1⟩; have d4 := below_cell h1 hwW c4; have d5 := below_cell h1 hwW c5; have d6 := below_cell h1 hwW c6; have hz := Nat.lt_of_lt_of_le hwW h1.size) | (go_at_call 133; refine (hR _).mono ?_; rintro e w2 ⟨rfl, h2⟩; have g6 := below_cell h2 hz d6))
       go_ret
       exact ⟨rfl, below_step (below_step bA h1) h2⟩
     · have e3 := empty_false h0
       have h0' : decide (v.size = 0) = false := decide_eq_false h0
       rw [h0']
       clear h0'
       go_enter Tryz.func110, Tryz.ntmps110
       go_wp2_with fail
       rw [<- HW.out]
       go_wp2_with (first | (go_at_call 131; refine (hK _).mono ?_; rintro e w1 ⟨rfl, h1⟩; have d4 := below_cell h1 hwW c4; have d5 := below_cell h1 hwW c5; have d6 := below_cell h1 hwW c6; have hz := Nat.lt_of_lt_of_le hwW h1.size) | (go_at_call 133; refine (hR _).mono ?_; rintro e w2 ⟨rfl, h2⟩; have g6 := below_cell h2 hz d6) | (go_at_call 161; refine (hF _).mono ?_; rintro e w3 ⟨rfl, rfl⟩))
       go_ret
       exact ⟨rfl, below_step (below_step bA h1) h2⟩
theorem fwrite1_any (k a b f t : Int) (s v : ByteArray) (w : World) (hs : s.size <= maxLen) (hv : v.size <= maxLen) :
  Calls Tryz.prog 90 #[.agg #[.int .i64 k, .int .i64 a, .string s, .int .i64 b, .int .i64 f, .int .i64 t, .string v]] w fun e w' => e = .returned (.bool (!opB ⟨⟨k, a, s, b⟩, f, t, v⟩)) /\ Below w.heap.size w w' := by
 go_enter Tryz.func90, Tryz.ntmps90
 go_wp2_with (go_at_call 91; refine (fop_any k a b f t s v _ hs hv).mono ?_; rintro e w1 ⟨rfl, h1⟩)
 go_ret
 exact ⟨rfl, below_over h1⟩
def PowTab (w : World) : Prop := Lib.TabIs Tryz.prog w "internal/strconv.uint64pow10" .u64 Lib.pow10Tab
theorem PowTab.below {w w' : World} (h : PowTab w) (hb : Below w.heap.size w w') : PowTab w' := Lib.tabBelow_of_tabIs h w' hb
theorem PowTab.drew {w : World} (h : PowTab w) : PowTab w.drew := h.below ((Below.refl _ _).drew)
def i64B (n : Int) : Prop := -9223372036854775808 <= n /\ n <= 9223372036854775807
theorem itoa_any (n : Int) (hn : i64B n) (w : World) (ht : PowTab w) : Calls Tryz.prog 80 #[.int .i64 n] w fun e w' => e = .returned (.string ⟨(Lib.itoa n).toArray⟩) /\ Below w.heap.size w w' :=
 (Tryz.strconv_Itoa n hn.1 hn.2 w ht).mono fun _ _ ⟨h1, k, os, h2⟩ => ⟨h1, by rw [h2]; exact Lib.below_grow _ w (Nat.le_refl _) k os⟩
def textsAt (w : World) (ao : Option Addr) (l : List ByteArray) : Prop := ∀ i x, l[i]? = some x -> ∃ b o, ao = some ⟨b, o, none⟩ /\ w.cell? ⟨b, o + i, none⟩ = some (.string x)
theorem textsAt.below {w w' : World} {ao : Option Addr} {l : List ByteArray} (h : textsAt w ao l) (hb : Below w.heap.size w w') : textsAt w' ao l :=
 fun i x hi => let ⟨b, o, h1, h2⟩ := h i x hi
  ⟨b, o, h1, (hb.cell (p := ⟨b, _, none⟩) (World.block_lt_of_cell? w _ h2)).trans h2⟩
theorem infoStr : (Tryz.prog.info? 9).map (fun i => (i.zero, i.size, i.bytes)) = some (some (.string ⟨#[]⟩), 1, 16) := by kernel_rfl
theorem ownsRow_texts {w : World} {base n : Nat} {v : Value} {l : List ByteArray} {e : TypeId} (h : w.ownsRow base e 1 v n (l.map Value.string)) :
  ∃ ao cap, v = .slice ao l.length cap /\ textsAt w ao l /\ l.length <= cap /\ (ao = none -> l = []) := by
 have hn : n = l.length := by have := h.1; simp at this; omega
 subst hn
 have h0 := h
 rcases h.2 with ⟨rfl, hn⟩ | ⟨g, cap, cur, rfl, hbg, hh, hnc, hcm, hcs, htk⟩
 · have hl : l = [] := List.eq_nil_of_length_eq_zero hn
   subst hl
   exact ⟨none, 0, rfl, fun i x hx => by simp at hx, Nat.le_refl _, fun _ => rfl⟩
 · refine ⟨some ⟨g, 0, none⟩, cap, rfl, fun i x hx => ⟨g, 0, rfl, ?_⟩, hnc, fun h => by cases h⟩
   have hi := (List.getElem?_eq_some_iff.1 hx).1
   have := h0.cellAt i (by omega)
   rw [Nat.zero_add, this]
   simp [hx]
theorem join_any (ao : Option Addr) (c : Nat) (xs : List ByteArray) (sep : ByteArray) (w : World) (hx : textsAt w ao xs) (hc : xs.length <= c) (hn : xs.length <= 140737488355328) (hlen : (Lib.join (xs.map (·.data.toList)) sep.data.toList).length <= 140737488355328) :
  Calls Tryz.prog 93 #[.slice ao xs.length c, .string sep] w fun e w' => e = .returned (.string ⟨(Lib.join (xs.map (·.data.toList)) sep.data.toList).toArray⟩) /\ Below w.heap.size w w' := by
 cases xs with
 | nil => exact (Tryz.strings_Join_none ao c sep w).mono fun _ _ ⟨h1, h2⟩ => ⟨h1, by rw [h2]; exact Below.refl _ _⟩
 | cons x r =>
   obtain ⟨b, o, rfl, h0⟩ := hx 0 x rfl
   exact Tryz.strings_Join b o c (x :: r) sep w (fun j y hj => by obtain ⟨b', o', h1, h2⟩ := hx j y hj; cases h1; exact h2) (World.block_lt_of_cell? w _ h0) hn hc hlen
theorem appText {W : World} {ops : Array Oper} {rest : List Oper} {o : Oper} {a : Act} {Q : Exit -> Act -> World -> Prop} (hgd : o.guard = none) (s x : Operand)
  (ho : o.op = .call { callee := .builtin .append, args := #[s, x], argTypes := #[114, 114] }) (base : Nat) (v : Value) (l : List ByteArray) (hs : a.eval s = v) (hown : W.ownsRow base 9 1 v l.length (l.map Value.string))
  (b : Nat) (t : ByteArray) (hx : a.eval x = .slice (some ⟨b, 0, none⟩) 1 1) (hc1 : W.cell? ⟨b, 0, none⟩ = some (.string t))
  (hbytes : (l.length + 1) * 16 <= 140737488355328) (hbase : base <= W.heap.size) (w0 : World) (hB : Below base w0 W)
  (h : ∀ v' w', w'.ownsRow base 9 1 v' (l ++ [t]).length ((l ++ [t]).map Value.string) -> Below base w0 w' -> W.heap.size <= w'.heap.size -> W.grownBy w' v.ownBlock -> wpList Tryz.prog ops Q rest (a.put o.dst v') w') : wpList Tryz.prog ops Q (o :: rest) a W := by
 refine app1 hgd s x _ ho base 9 Tryz.underlying114 infoStr rfl (by decide) (by decide) v l.length (l.map Value.string) hs hown b [.string t] hx rfl (fun u hu => ?_) (fun j u hu => ?_) hbytes hbase w0 hB fun v' w' h2 h3 h4 h5 h6 => h v' w' ?_ h3 h4 h6
 · simp at hu; subst hu; rfl
 · match j, hu with
   | 0, hu => simp at hu; subst hu; exact hc1
 · rw [List.map_append, List.length_append]; exact h2
def numsB (l : List Int) : List ByteArray := l.map fun n => ⟨(Lib.itoa n).toArray⟩
theorem numsB_data (l : List Int) : (numsB l).map (·.data.toList) = l.map Lib.itoa := by simp [numsB]
theorem numsB_length (l : List Int) : (numsB l).length = l.length := by simp [numsB]
theorem numsB_snoc (l : List Int) (k : Nat) (x : Int) (h : l[k]? = some x) : numsB (l.take (k + 1)) = numsB (l.take k) ++ [⟨(Lib.itoa x).toArray⟩] := by
 rw [List.take_add_one, h]; simp [numsB]
theorem join_len (sep : List UInt8) (m : Nat) : ∀ l : List (List UInt8), (∀ p ∈ l, p.length <= m) -> (Lib.join l sep).length <= l.length * (m + sep.length)
 | [], _ => by simp [Lib.join, List.intercalate]
 | [p], h => by
   have := h p (by simp)
   simp [Lib.join, List.intercalate, List.intersperse]; omega
 | p :: q :: r, h => by
   have h1 := h p (by simp)
   have h2 := join_len sep m (q :: r) (fun x hx => h x (List.mem_cons_of_mem _ hx))
   have e : Lib.join (p :: q :: r) sep = p ++ (sep ++ Lib.join (q :: r) sep) := by simp [Lib.join, List.intercalate, List.intersperse]
   rw [e]
   simp only [List.length_append, List.length_cons, Nat.add_mul, Nat.one_mul] at h2 ⊢
   omega
def wordsT (l : List Int) : List UInt8 := Lib.join (l.map Lib.itoa) [32]
theorem wordsT_len (l : List Int) (h : ∀ x ∈ l, i64B x) : (wordsT l).length <= l.length * 22 := by
 have := join_len [32] 21 (l.map Lib.itoa) (fun p hp => by
  obtain ⟨x, hx, rfl⟩ := List.mem_map.1 hp
  exact Lib.itoa_length_le x (h x hx).1 (h x hx).2)
 simpa [wordsT] using this
set_option maxHeartbeats 1000000 in
theorem words_any (ao : Option Addr) (c : Nat) (l : List Int) (w : World) (hl : intsAt w ao l) (hwf : ∀ x ∈ l, i64B x) (hn : l.length <= 4294967296) (ht : PowTab w) :
  Calls Tryz.prog 112 #[.slice ao l.length c] w fun e w' => e = .returned (.string ⟨(wordsT l).toArray⟩) /\ Below w.heap.size w w' := by
 have HT := Lib.hid ht
 have HL := Lib.hid hl
 have HF := Lib.hid hwf
 clear ht hl hwf
 go_enter Tryz.func112, Tryz.ntmps112
 go_wp2
 go_loopw [3, 8] (fun v i wr => ∃ k : Nat, k <= l.length /\ i = .int .i64 k /\ wr.ownsRow w.heap.size 9 1 v (numsB (l.take k)).length ((numsB (l.take k)).map Value.string) /\ Below w.heap.size w wr) (fun _ i _ => l.length - (intOf i).toNat)
 case atStart => exact ⟨0, by omega, rfl, World.ownsRow_nil _ _ _ _, Below.refl _ _⟩
 case round =>
  obtain ⟨k, hk, rfl, hown, hB⟩ := hrel
  by_cases hlt : k < l.length
  · obtain ⟨b, o, x, g1, rfl, c1⟩ := intsAt_get HL.out hlt
    have hb : b < w.heap.size := World.block_lt_of_cell? w _ c1
    have c1 := (hB.cell (p := ⟨b, o + k, none⟩) hb).trans c1
    have hx : i64B x := HF.out x (List.mem_of_getElem? g1.out)
    have hsn := Lib.hid (numsB_snoc l k x g1.out)
    have hle : (numsB (l.take k)).length <= k := by rw [numsB_length]; exact List.length_take_le _ _
    generalize hM : numsB (l.take k) = M at *
    have HM := Lib.hid hM
    clear hM
    have hT1 := HT.out.below hB
    have HX := Lib.hid hx
    have HB := Lib.hid hB
    have HO := Lib.hid hown
    have hsz := hB.size
    clear hx hB hown
    go_wp2_with (first | (go_at_call 80; refine (itoa_any x HX.out _ hT1).mono ?_; rintro e w1 ⟨rfl, hb1⟩; have HB1 := Lib.hid (below_trans HB.out HB.out.size hb1); have HO1 := Lib.hid (ownsRow_below HO.out hb1); have hs1 := hb1.size; clear hb1) | (at_builtin; refine appText rfl _ _ rfl w.heap.size _ M rfl (HO1.out.alloc _) w1.heap.size ⟨(Lib.itoa x).toArray⟩ rfl (by simp) (by omega) (by simp; omega) w (HB1.out.alloc HB1.out.size _) ?_; intro v' w2 hown2 hB2 hs2 hg2))
    exact ⟨⟨k + 1, by omega, by go_num, by rw [hsn.out]; exact hown2, hB2⟩, by simp [intOf]; omega⟩
  · have he : l.take k = l := List.take_of_length_le (by omega)
    rw [he] at hown
    clear he
    obtain ⟨ao', cap, rfl, ht1, hcap, _⟩ := ownsRow_texts hown
    have hJ := join_any ao' cap (numsB l) ⟨#[32]⟩ wr ht1 hcap (by rw [numsB_length]; omega) (by
     have := wordsT_len l HF.out
     rw [numsB_data]; unfold wordsT at this; simp only at this ⊢; omega)
    rw [numsB_data] at hJ
    have HJ := Lib.hid hJ
    have HB := Lib.hid hB
    clear hJ hown ht1 hB
    go_wp2_with (go_at_call 93; refine HJ.out.mono ?_; rintro e w1 ⟨rfl, hb1⟩)
    go_ret
    exact ⟨rfl, below_trans HB.out HB.out.size hb1⟩
theorem ret_str {a b : ByteArray} (h : a = b) : Ending.returned (.string a) = .returned (.string b) := by rw [h]
theorem intsAt_new (V : World) (l : List Int) {cs : Array Value} {t : TypeId} (h : cs.toList = l.map (Value.int .i64)) : intsAt (V.alloc (.cells cs t)) (some ⟨V.heap.size, 0, none⟩) l := by
 intro i x hi
 refine ⟨V.heap.size, 0, rfl, ?_⟩
 rw [Nat.zero_add]
 have : cs[i]? = some (.int .i64 x) := by rw [<- Array.getElem?_toList, h]; simp [hi]
 simp [this]
theorem dashL_len (s : ByteArray) : (dashL s).length <= s.size + 1 := by
 unfold dashL; split
 · simp
 · rw [size_toList]; omega
def ktφ (kb : Nat) (k a b : Int) (s : ByteArray) : Nat -> World -> Value -> Prop := fun i V v => match i with
 | 0 => v = .pointer (some ⟨kb, 0, none⟩)
 | 1 => v = .int .i64 k
 | 2 => v = .pointer (some ⟨kb, 1, none⟩)
 | 3 => v = .int .i64 a
 | 4 => ∃ g, v = .slice (some ⟨g, 0, none⟩) 2 2 /\ intsAt V (some ⟨g, 0, none⟩) [k, a]
 | 5 => v = .string ⟨(wordsT [k, a]).toArray⟩
 | 6 => v = .string (⟨(wordsT [k, a]).toArray⟩ ++ ⟨#[32]⟩)
 | 7 => v = .pointer (some ⟨kb, 2, none⟩)
 | 8 => v = .string s
 | 9 => v = .string ⟨(dashL s).toArray⟩
 | 10 => v = .string (⟨(wordsT [k, a]).toArray⟩ ++ ⟨#[32]⟩ ++ ⟨(dashL s).toArray⟩)
 | 11 => v = .string (⟨(wordsT [k, a]).toArray⟩ ++ ⟨#[32]⟩ ++ ⟨(dashL s).toArray⟩ ++ ⟨#[32]⟩)
 | 12 => v = .pointer (some ⟨kb, 3, none⟩)
 | 13 => v = .int .i64 b
 | 14 => ∃ g, v = .slice (some ⟨g, 0, none⟩) 1 1 /\ intsAt V (some ⟨g, 0, none⟩) [b]
 | 15 => v = .string ⟨(wordsT [b]).toArray⟩
 | 16 => v = .string (⟨(wordsT [k, a]).toArray⟩ ++ ⟨#[32]⟩ ++ ⟨(dashL s).toArray⟩ ++ ⟨#[32]⟩ ++ ⟨(wordsT [b]).toArray⟩)
 | _ => True
theorem ktφ_0 (kb : Nat) (k a b : Int) (s : ByteArray) (V : World) (v : Value) (h : ktφ kb k a b s 0 V v) : v = .pointer (some ⟨kb, 0, none⟩) := h
theorem ktφ_1 (kb : Nat) (k a b : Int) (s : ByteArray) (V : World) (v : Value) (h : ktφ kb k a b s 1 V v) : v = .int .i64 k := h
theorem ktφ_2 (kb : Nat) (k a b : Int) (s : ByteArray) (V : World) (v : Value) (h : ktφ kb k a b s 2 V v) : v = .pointer (some ⟨kb, 1, none⟩) := h
theorem ktφ_3 (kb : Nat) (k a b : Int) (s : ByteArray) (V : World) (v : Value) (h : ktφ kb k a b s 3 V v) : v = .int .i64 a := h
theorem ktφ_4 (kb : Nat) (k a b : Int) (s : ByteArray) (V : World) (v : Value) (h : ktφ kb k a b s 4 V v) : ∃ g, v = .slice (some ⟨g, 0, none⟩) 2 2 /\ intsAt V (some ⟨g, 0, none⟩) [k, a] := h
theorem ktφ_5 (kb : Nat) (k a b : Int) (s : ByteArray) (V : World) (v : Value) (h : ktφ kb k a b s 5 V v) : v = .string ⟨(wordsT [k, a]).toArray⟩ := h
theorem ktφ_6 (kb : Nat) (k a b : Int) (s : ByteArray) (V : World) (v : Value) (h : ktφ kb k a b s 6 V v) : v = .string (⟨(wordsT [k, a]).toArray⟩ ++ ⟨#[32]⟩) := h
theorem ktφ_7 (kb : Nat) (k a b : Int) (s : ByteArray) (V : World) (v : Value) (h : ktφ kb k a b s 7 V v) : v = .pointer (some ⟨kb, 2, none⟩) := h
theorem ktφ_8 (kb : Nat) (k a b : Int) (s : ByteArray) (V : World) (v : Value) (h : ktφ kb k a b s 8 V v) : v = .string s := h
theorem ktφ_9 (kb : Nat) (k a b : Int) (s : ByteArray) (V : World) (v : Value) (h : ktφ kb k a b s 9 V v) : v = .string ⟨(dashL s).toArray⟩ := h
theorem ktφ_10 (kb : Nat) (k a b : Int) (s : ByteArray) (V : World) (v : Value) (h : ktφ kb k a b s 10 V v) : v = .string (⟨(wordsT [k, a]).toArray⟩ ++ ⟨#[32]⟩ ++ ⟨(dashL s).toArray⟩) := h
theorem ktφ_11 (kb : Nat) (k a b : Int) (s : ByteArray) (V : World) (v : Value) (h : ktφ kb k a b s 11 V v) : v = .string (⟨(wordsT [k, a]).toArray⟩ ++ ⟨#[32]⟩ ++ ⟨(dashL s).toArray⟩ ++ ⟨#[32]⟩) := h
theorem ktφ_12 (kb : Nat) (k a b : Int) (s : ByteArray) (V : World) (v : Value) (h : ktφ kb k a b s 12 V v) : v = .pointer (some ⟨kb, 3, none⟩) := h
theorem ktφ_13 (kb : Nat) (k a b : Int) (s : ByteArray) (V : World) (v : Value) (h : ktφ kb k a b s 13 V v) : v = .int .i64 b := h
theorem ktφ_14 (kb : Nat) (k a b : Int) (s : ByteArray) (V : World) (v : Value) (h : ktφ kb k a b s 14 V v) : ∃ g, v = .slice (some ⟨g, 0, none⟩) 1 1 /\ intsAt V (some ⟨g, 0, none⟩) [b] := h
theorem ktφ_15 (kb : Nat) (k a b : Int) (s : ByteArray) (V : World) (v : Value) (h : ktφ kb k a b s 15 V v) : v = .string ⟨(wordsT [b]).toArray⟩ := h
theorem ktφ_16 (kb : Nat) (k a b : Int) (s : ByteArray) (V : World) (v : Value) (h : ktφ kb k a b s 16 V v) : v = .string (⟨(wordsT [k, a]).toArray⟩ ++ ⟨#[32]⟩ ++ ⟨(dashL s).toArray⟩ ++ ⟨#[32]⟩ ++ ⟨(wordsT [b]).toArray⟩) := h
theorem ktφ_mono (kb : Nat) (k a b : Int) (s : ByteArray) (i : Nat) (V V' : World) (v : Value) (hb : Below V.heap.size V V') (h : ktφ kb k a b s i V v) : ktφ kb k a b s i V' v :=
 match i, h with
 | 0, h => h
 | 1, h => h
 | 2, h => h
 | 3, h => h
 | 4, h => let ⟨g, e, hg⟩ := h; ⟨g, e, hg.below hb⟩
 | 5, h => h
 | 6, h => h
 | 7, h => h
 | 8, h => h
 | 9, h => h
 | 10, h => h
 | 11, h => h
 | 12, h => h
 | 13, h => h
 | 14, h => let ⟨g, e, hg⟩ := h; ⟨g, e, hg.below hb⟩
 | 15, h => h
 | 16, h => h
 | _ + 17, _ => trivial
theorem ktφ_list {X : List Value} (h : X.length = 17) : ∃ x0 x1 x2 x3 x4 x5 x6 x7 x8 x9 x10 x11 x12 x13 x14 x15 x16, X = [x0, x1, x2, x3, x4, x5, x6, x7, x8, x9, x10, x11, x12, x13, x14, x15, x16] :=
 match X, h with | [x0, x1, x2, x3, x4, x5, x6, x7, x8, x9, x10, x11, x12, x13, x14, x15, x16], _ => ⟨x0, x1, x2, x3, x4, x5, x6, x7, x8, x9, x10, x11, x12, x13, x14, x15, x16, rfl⟩
set_option maxRecDepth 100000 in
theorem keyText_any (k a b : Int) (s : ByteArray) (w : World) (hk : i64B k) (ha : i64B a) (hb : i64B b) (hs : s.size <= 100000) (ht : PowTab w) :
  Calls Tryz.prog 111 #[.agg #[.int .i64 k, .int .i64 a, .string s, .int .i64 b]] w fun e w' => e = .returned (.string ⟨(Lib.join [Lib.itoa k, Lib.itoa a, dashL s, Lib.itoa b] [32]).toArray⟩) /\ Below w.heap.size w w' := by
 obtain ⟨W, hW⟩ : ∃ W, W = w.alloc (.cells #[.int .i64 k, .int .i64 a, .string s, .int .i64 b] 44) := ⟨_, rfl⟩
 have bA : Below w.heap.size w W := by rw [hW]; exact (Below.refl _ w).alloc (Nat.le_refl _) _
 obtain ⟨kb, hkb⟩ : ∃ kb, kb = w.heap.size := ⟨_, rfl⟩
 have hkW : kb < W.heap.size := by rw [hkb, hW]; simp
 have c0 : W.cell? ⟨kb, 0, none⟩ = some (.int .i64 k) := by rw [hkb, hW]; simp
 have c1 : W.cell? ⟨kb, 1, none⟩ = some (.int .i64 a) := by rw [hkb, hW]; simp
 have c2 : W.cell? ⟨kb, 2, none⟩ = some (.string s) := by rw [hkb, hW]; simp
 have c3 : W.cell? ⟨kb, 3, none⟩ = some (.int .i64 b) := by rw [hkb, hW]; simp
 have tW := ht.below bA
 have HW := Lib.hid hW
 have HK := Lib.hid hkb
 clear hW hkb
 have hw1 : ∀ x ∈ [k, a], i64B x := by simp [hk, ha]
 have hw2 : ∀ x ∈ [b], i64B x := by simp [hb]
 have l1 := wordsT_len [k, a] hw1
 have l2 := wordsT_len [b] hw2
 have l3 := dashL_len s
 simp only [List.length_cons, List.length_nil] at l1 l2
 go_enter Tryz.func111, Tryz.ntmps111
 go_wp2_with fail
 rw [<- HW.out, <- HK.out]
 refine wp_region_dag_at 3 17 _ (fun V => Below W.heap.size W V) (fun V V' => Below V.heap.size V V') (ktφ kb k a b s) rfl (by kernel_rfl) (by kernel_rfl) ?_ rfl (Below.refl _ _).drew ?_ ?_
 · exact fun i V V' v _ _ hb h => ktφ_mono _ _ _ _ _ i V V' v hb h
 · simp only [List.take_succ_cons, List.take_zero, DagSteps, and_true]
   refine ⟨?_, ?_, ?_, ?_, ?_, ?_, ?_, ?_, ?_, ?_, ?_, ?_, ?_, ?_, ?_, ?_, ?_⟩
   · intro A V K hC hP hd hK
     have p1 : A.tmps[1]?.getD undef = .pointer (some ⟨kb, 0, none⟩) := evalT (hP 1 (of_decide_eq_true rfl))
     clear hP hd
     unfold Oper.wp
     go_simp
     exact hK _ _ hC (Below.refl _ _) rfl
   · intro A V K hC hP hd hK
     have e0 : A.tmps[3]?.getD undef = .pointer (some ⟨kb, 0, none⟩) := evalT (ktφ_0 _ _ _ _ _ _ _ (hd 0 (by kernel_rfl)))
     have d0 := below_cell hC hkW c0
     clear hP hd
     unfold Oper.wp
     go_simp
     exact hK _ _ hC (Below.refl _ _) rfl
   · intro A V K hC hP hd hK
     have p1 : A.tmps[1]?.getD undef = .pointer (some ⟨kb, 0, none⟩) := evalT (hP 1 (of_decide_eq_true rfl))
     clear hP hd
     unfold Oper.wp
     go_simp
     exact hK _ _ hC (Below.refl _ _) rfl
   · intro A V K hC hP hd hK
     have e2 : A.tmps[5]?.getD undef = .pointer (some ⟨kb, 1, none⟩) := evalT (ktφ_2 _ _ _ _ _ _ _ (hd 2 (by kernel_rfl)))
     have d1 := below_cell hC hkW c1
     clear hP hd
     unfold Oper.wp
     go_simp
     exact hK _ _ hC (Below.refl _ _) rfl
   · intro A V K hC hP hd hK
     have e1 : A.tmps[4]?.getD undef = .int .i64 k := evalT (ktφ_1 _ _ _ _ _ _ _ (hd 1 (by kernel_rfl)))
     have e3 : A.tmps[6]?.getD undef = .int .i64 a := evalT (ktφ_3 _ _ _ _ _ _ _ (hd 3 (by kernel_rfl)))
     clear hP hd
     unfold Oper.wp
     go_simp
     exact hK _ _ (hC.alloc hC.size _) ((Below.refl _ _).alloc (Nat.le_refl _) _) ⟨_, rfl, intsAt_new _ [k, a] (by simp)⟩
   · intro A V K hC hP hd hK
     have h4 := hd 4 (by kernel_rfl)
     have h4 := ktφ_4 _ _ _ _ _ _ _ h4
     obtain ⟨g, eg, hg⟩ := h4
     have e4 := evalT (t := 7) eg
     clear hP hd
     unfold Oper.wp
     go_simp
     refine (words_any _ 2 [k, a] V hg hw1 (by simp) (tW.below hC)).mono ?_
     rintro e w1 ⟨rfl, h1⟩
     exact hK _ _ (below_trans hC hC.size h1) h1 rfl
   · intro A V K hC hP hd hK
     have e5 : A.tmps[8]?.getD undef = .string ⟨(wordsT [k, a]).toArray⟩ := evalT (ktφ_5 _ _ _ _ _ _ _ (hd 5 (by kernel_rfl)))
     clear hP hd
     unfold Oper.wp
     go_simp
     rw [if_neg (by omega)]
     exact hK _ _ hC (Below.refl _ _) rfl
   · intro A V K hC hP hd hK
     have p1 : A.tmps[1]?.getD undef = .pointer (some ⟨kb, 0, none⟩) := evalT (hP 1 (of_decide_eq_true rfl))
     clear hP hd
     unfold Oper.wp
     go_simp
     exact hK _ _ hC (Below.refl _ _) rfl
   · intro A V K hC hP hd hK
     have e7 : A.tmps[10]?.getD undef = .pointer (some ⟨kb, 2, none⟩) := evalT (ktφ_7 _ _ _ _ _ _ _ (hd 7 (by kernel_rfl)))
     have d2 := below_cell hC hkW c2
     clear hP hd
     unfold Oper.wp
     go_simp
     exact hK _ _ hC (Below.refl _ _) rfl
   · intro A V K hC hP hd hK
     have e8 : A.tmps[11]?.getD undef = .string s := evalT (ktφ_8 _ _ _ _ _ _ _ (hd 8 (by kernel_rfl)))
     clear hP hd
     unfold Oper.wp
     go_simp
     refine (dashR_any s V).mono ?_
     rintro e w1 ⟨rfl, rfl⟩
     exact hK _ _ hC (Below.refl _ _) rfl
   · intro A V K hC hP hd hK
     have e6 : A.tmps[9]?.getD undef = .string (⟨(wordsT [k, a]).toArray⟩ ++ ⟨#[32]⟩) := evalT (ktφ_6 _ _ _ _ _ _ _ (hd 6 (by kernel_rfl)))
     have e9 : A.tmps[12]?.getD undef = .string ⟨(dashL s).toArray⟩ := evalT (ktφ_9 _ _ _ _ _ _ _ (hd 9 (by kernel_rfl)))
     clear hP hd
     unfold Oper.wp
     go_simp
     rw [if_neg (by omega)]
     exact hK _ _ hC (Below.refl _ _) rfl
   · intro A V K hC hP hd hK
     have e10 : A.tmps[13]?.getD undef = .string (⟨(wordsT [k, a]).toArray⟩ ++ ⟨#[32]⟩ ++ ⟨(dashL s).toArray⟩) := evalT (ktφ_10 _ _ _ _ _ _ _ (hd 10 (by kernel_rfl)))
     clear hP hd
     unfold Oper.wp
     go_simp
     rw [if_neg (by omega)]
     exact hK _ _ hC (Below.refl _ _) rfl
   · intro A V K hC hP hd hK
     have p1 : A.tmps[1]?.getD undef = .pointer (some ⟨kb, 0, none⟩) := evalT (hP 1 (of_decide_eq_true rfl))
     clear hP hd
     unfold Oper.wp
     go_simp
     exact hK _ _ hC (Below.refl _ _) rfl
   · intro A V K hC hP hd hK
     have e12 : A.tmps[15]?.getD undef = .pointer (some ⟨kb, 3, none⟩) := evalT (ktφ_12 _ _ _ _ _ _ _ (hd 12 (by kernel_rfl)))
     have d3 := below_cell hC hkW c3
     clear hP hd
     unfold Oper.wp
     go_simp
     exact hK _ _ hC (Below.refl _ _) rfl
   · intro A V K hC hP hd hK
     have e13 : A.tmps[16]?.getD undef = .int .i64 b := evalT (ktφ_13 _ _ _ _ _ _ _ (hd 13 (by kernel_rfl)))
     clear hP hd
     unfold Oper.wp
     go_simp
     exact hK _ _ (hC.alloc hC.size _) ((Below.refl _ _).alloc (Nat.le_refl _) _) ⟨_, rfl, intsAt_new _ [b] (by simp)⟩
   · intro A V K hC hP hd hK
     have h14 := hd 14 (by kernel_rfl)
     have h14 := ktφ_14 _ _ _ _ _ _ _ h14
     obtain ⟨g, eg, hg⟩ := h14
     have e14 := evalT (t := 17) eg
     clear hP hd
     unfold Oper.wp
     go_simp
     refine (words_any _ 1 [b] V hg hw2 (by simp) (tW.below hC)).mono ?_
     rintro e w1 ⟨rfl, h1⟩
     exact hK _ _ (below_trans hC hC.size h1) h1 rfl
   · intro A V K hC hP hd hK
     have e11 : A.tmps[14]?.getD undef = .string (⟨(wordsT [k, a]).toArray⟩ ++ ⟨#[32]⟩ ++ ⟨(dashL s).toArray⟩ ++ ⟨#[32]⟩) := evalT (ktφ_11 _ _ _ _ _ _ _ (hd 11 (by kernel_rfl)))
     have e15 : A.tmps[18]?.getD undef = .string ⟨(wordsT [b]).toArray⟩ := evalT (ktφ_15 _ _ _ _ _ _ _ (hd 15 (by kernel_rfl)))
     clear hP hd
     unfold Oper.wp
     go_simp
     rw [if_neg (by omega)]
     exact hK _ _ hC (Below.refl _ _) rfl
 · intro X w1 hX hC hφ
   obtain ⟨x0, x1, x2, x3, x4, x5, x6, x7, x8, x9, x10, x11, x12, x13, x14, x15, x16, rfl⟩ := ktφ_list hX
   have e16 := ktφ_16 _ _ _ _ _ _ _ (hφ 16 (of_decide_eq_true rfl))
   have e : x16 = .string (⟨(wordsT [k, a]).toArray⟩ ++ ⟨#[32]⟩ ++ ⟨(dashL s).toArray⟩ ++ ⟨#[32]⟩ ++ ⟨(wordsT [b]).toArray⟩) := e16
   rw [e]
   clear e e16 hφ hX
   unfold Oper.wp
   go_simp
   rename_i hK
   refine hK _ _ ?_
   go_wp2
   go_ret
   exact ⟨ret_str (bytes_ext (by simp [wordsT, Lib.join, List.intercalate, List.intersperse])), below_trans bA bA.size hC⟩
def opCells (o : OpP) : List Value := [.int .i64 o.key.kind, .int .i64 o.key.a, .string o.key.word, .int .i64 o.key.b, .int .i64 o.fr, .int .i64 o.to, .string o.value]
def opsAt (w : World) (ao : Option Addr) (l : List OpP) : Prop := ∀ i o, l[i]? = some o -> ∃ b f, ao = some ⟨b, f, none⟩ /\ ∀ j u, (opCells o)[j]? = some u -> w.cell? ⟨b, f + i * 7 + j, none⟩ = some u
theorem opsAt.below {w w' : World} {ao : Option Addr} {l : List OpP} (h : opsAt w ao l) (hb : Below w.heap.size w w') : opsAt w' ao l :=
 fun i o hi => let ⟨b, f, h1, h2⟩ := h i o hi
  ⟨b, f, h1, fun j u hj => (hb.cell (p := ⟨b, _, none⟩) (World.block_lt_of_cell? w _ (h2 j u hj))).trans (h2 j u hj)⟩
theorem opsAt_get {w : World} {ao : Option Addr} {l : List OpP} (h : opsAt w ao l) {k : Nat} (hk : k < l.length) :
  ∃ b f n a s m x y u, Hid (l[k]? = some ⟨⟨n, a, s, m⟩, x, y, u⟩) /\ ao = some ⟨b, f, none⟩ /\ b < w.heap.size /\ w.cell? ⟨b, f + k * 7, none⟩ = some (.int .i64 n) /\ w.cell? ⟨b, f + k * 7 + 1, none⟩ = some (.int .i64 a) /\ w.cell? ⟨b, f + k * 7 + 2, none⟩ = some (.string s) ∧
    w.cell? ⟨b, f + k * 7 + 3, none⟩ = some (.int .i64 m) /\ w.cell? ⟨b, f + k * 7 + 4, none⟩ = some (.int .i64 x) /\ w.cell? ⟨b, f + k * 7 + 5, none⟩ = some (.int .i64 y) /\ w.cell? ⟨b, f + k * 7 + 6, none⟩ = some (.string u) := by
 cases hg : l[k] with
 | mk key x y u =>
   cases key with
   | mk n a s m =>
     have hs : l[k]? = some ⟨⟨n, a, s, m⟩, x, y, u⟩ := by rw [List.getElem?_eq_getElem hk, hg]
     obtain ⟨b, f, h1, h2⟩ := h k _ hs
     exact ⟨b, f, n, a, s, m, x, y, u, Lib.hid hs, h1, World.block_lt_of_cell? w _ (h2 0 _ rfl), h2 0 _ rfl, h2 1 _ rfl, h2 2 _ rfl, h2 3 _ rfl, h2 4 _ rfl, h2 5 _ rfl, h2 6 _ rfl⟩
theorem join_snoc (sep x : List UInt8) : ∀ l : List (List UInt8), l ≠ [] -> Lib.join (l ++ [x]) sep = Lib.join l sep ++ (sep ++ x)
 | [], h => absurd rfl h
 | [p], _ => by simp [Lib.join, List.intercalate, List.intersperse]
 | p :: q :: r, _ => by
   have ih := join_snoc sep x (q :: r) (by simp)
   have e : ∀ (p q : List UInt8) (r : List (List UInt8)), Lib.join (p :: q :: r) sep = p ++ (sep ++ Lib.join (q :: r) sep) := fun p q r => by simp [Lib.join, List.intercalate, List.intersperse]
   rw [List.cons_append, List.cons_append, e, e, <- List.cons_append, ih]
   simp
def ahead (T : List UInt8) (k : Nat) : List UInt8 := if 0 < k then T ++ [43] else T
theorem writeT_snoc {l : List OpP} {k : Nat} {o : OpP} (h : l[k]? = some o) : writeT (l.take (k + 1)) = ahead (writeT (l.take k)) k ++ opT o := by
 have hk : k < l.length := (List.getElem?_eq_some_iff.1 h).1
 rw [List.take_add_one, h]
 unfold writeT ahead
 simp only [Option.toList_some, List.map_append, List.map_cons, List.map_nil]
 by_cases h0 : 0 < k
 · rw [if_pos h0, join_snoc _ _ _ (by simp only [ne_eq, List.map_eq_nil_iff, List.take_eq_nil_iff]; intro e; rcases e with e | e; omega; subst e; simp at hk)]
   simp
 · obtain rfl : k = 0 := by omega
   rw [if_neg h0]
   simp [Lib.join, List.intercalate]
theorem ahead_len (T : List UInt8) (k : Nat) : (ahead T k).length <= T.length + 1 := by unfold ahead; split <;> simp
theorem word_size {s : ByteArray} (h : s.size = 0 \/ wordB s = true) : s.size <= 12 := by
 rcases h with h | h
 · omega
 · unfold wordB at h; simp only [Bool.and_eq_true, decide_eq_true_eq] at h; exact h.1.2
theorem opT_len {o : OpP} (hb : opB o = true) : (opT o).length <= 500 := by
 have hw := opB_wf hb
 have h1 := word_size (key_word (op_key hb))
 have h2 := word_size (op_value hb)
 have := join_len [32] 61 (opWs o) (fun p hp => by
  obtain ⟨w1, w2, w3, w4, w5⟩ := hw
  have d1 := dashL_len o.key.word
  have d2 := dashL_len o.value
  have l1 := Lib.itoa_length_le _ w1.1 w1.2
  have l2 := Lib.itoa_length_le _ w2.1 w2.2
  have l3 := Lib.itoa_length_le _ w3.1 w3.2
  have l4 := Lib.itoa_length_le _ w4.1 w4.2
  have l5 := Lib.itoa_length_le _ w5.1 w5.2
  simp only [opWs, List.mem_cons, List.not_mem_nil, or_false] at hp
  rcases hp with rfl | rfl | rfl | rfl | rfl | rfl | rfl <;> omega)
 simp only [opWs, List.length_cons, List.length_nil] at this
 unfold opT opWs
 omega
theorem lenB_le {l : List OpP} (h : lenB l = true) : l.length <= 8 := by unfold lenB at h; simp only [decide_eq_true_eq] at h; exact h.2
theorem all_snoc {l : List OpP} {k : Nat} {o : OpP} (h : l[k]? = some o) (hb : (l.take k).all opB = true) (ho : opB o = true) : (l.take (k + 1)).all opB = true := by
 rw [List.take_add_one, h, List.all_append, hb]
 simp [ho]
theorem all_first {l : List OpP} {k : Nat} {o : OpP} (h : l[k]? = some o) (hb : (l.take k).all opB = true) (ho : opB o = false) : l.all opB = false /\ (l.findIdx fun o => !opB o) = k := by
 have hk := List.getElem?_eq_some_iff.1 h
 obtain ⟨hk, e⟩ := hk
 refine ⟨?_, ?_⟩
 · rw [List.all_eq_false]; exact ⟨o, by rw [<- e]; exact List.getElem_mem _, by simp [ho]⟩
 · rw [List.findIdx_eq hk]
   refine ⟨by simp [e, ho], fun j hj => ?_⟩
   have := List.all_eq_true.1 hb (l[j]'(by omega)) (by rw [List.mem_take_iff_getElem]; exact ⟨j, by omega, rfl⟩)
   simp [this]
theorem writeR_bad {l : List OpP} {k : Nat} {o : OpP} (hl : lenB l = true) (h : l[k]? = some o) (hb : (l.take k).all opB = true) (ho : opB o = false) : writeR l = ([], 1, (k : Int)) := by
 obtain ⟨h1, h2⟩ := all_first h hb ho
 unfold writeR
 rw [hl, h1, h2]; rfl
theorem writeR_good {l : List OpP} (hl : lenB l = true) (hb : l.all opB = true) : writeR l = (writeT l, 0, -1) := by
 unfold writeR; rw [hl, hb]; rfl
theorem writeR_len {l : List OpP} (hl : lenB l = false) : writeR l = ([], 4, -1) := by
 unfold writeR; rw [hl]; rfl
theorem ret_write {a b : List UInt8 × Int × Int} (h : a = b) : Ending.returned (.tuple #[.string ⟨a.1.toArray⟩, .agg #[.int .i64 a.2.1, .int .i64 a.2.2]]) = .returned (.tuple #[.string ⟨b.1.toArray⟩, .agg #[.int .i64 b.2.1, .int .i64 b.2.2]]) := by rw [h]
theorem rbare_any (n' : Int) (w : World) : Calls Tryz.prog 61 #[.int .i64 n'] w fun e w' => e = .returned (.agg #[.int .i64 n', .int .i64 (-1)]) /\ Below w.heap.size w w' := by
 go_enter Tryz.func61, Tryz.ntmps61
 go_wp2_with fail
 exact bodyPost_ret (v := .agg #[.int .i64 n', .int .i64 (-1)]) (by simp [results, Tryz.results61, go_sem]) rfl ⟨rfl, (Below.refl _ w).alloc (Nat.le_refl _) _⟩
def wrφ (ob : Nat) (S : List UInt8) (n a m x y : Int) (s u : ByteArray) : Nat -> World -> Value -> Prop := fun i V v => match i with
 | 0 => v = .string ⟨S.toArray⟩
 | 1 => v = .pointer (some ⟨ob, 0, none⟩)
 | 2 => v = .agg #[.int .i64 n, .int .i64 a, .string s, .int .i64 m]
 | 3 => v = .string ⟨(Lib.join [Lib.itoa n, Lib.itoa a, dashL s, Lib.itoa m] [32]).toArray⟩
 | 4 => v = .string (⟨(Lib.join [Lib.itoa n, Lib.itoa a, dashL s, Lib.itoa m] [32]).toArray⟩ ++ ⟨#[32]⟩)
 | 5 => v = .pointer (some ⟨ob, 4, none⟩)
 | 6 => v = .pointer (some ⟨ob, 4, none⟩)
 | 7 => v = .int .i64 x
 | 8 => v = .pointer (some ⟨ob, 4, none⟩)
 | 9 => v = .pointer (some ⟨ob, 5, none⟩)
 | 10 => v = .int .i64 y
 | 11 => ∃ g, v = .slice (some ⟨g, 0, none⟩) 2 2 /\ intsAt V (some ⟨g, 0, none⟩) [x, y]
 | 12 => v = .string ⟨(wordsT [x, y]).toArray⟩
 | 13 => v = .string (⟨(Lib.join [Lib.itoa n, Lib.itoa a, dashL s, Lib.itoa m] [32]).toArray⟩ ++ ⟨#[32]⟩ ++ ⟨(wordsT [x, y]).toArray⟩)
 | 14 => v = .string (⟨(Lib.join [Lib.itoa n, Lib.itoa a, dashL s, Lib.itoa m] [32]).toArray⟩ ++ ⟨#[32]⟩ ++ ⟨(wordsT [x, y]).toArray⟩ ++ ⟨#[32]⟩)
 | 15 => v = .pointer (some ⟨ob, 6, none⟩)
 | 16 => v = .string u
 | 17 => v = .string ⟨(dashL u).toArray⟩
 | 18 => v = .string (⟨(Lib.join [Lib.itoa n, Lib.itoa a, dashL s, Lib.itoa m] [32]).toArray⟩ ++ ⟨#[32]⟩ ++ ⟨(wordsT [x, y]).toArray⟩ ++ ⟨#[32]⟩ ++ ⟨(dashL u).toArray⟩)
 | 19 => v = .string (⟨S.toArray⟩ ++ (⟨(Lib.join [Lib.itoa n, Lib.itoa a, dashL s, Lib.itoa m] [32]).toArray⟩ ++ ⟨#[32]⟩ ++ ⟨(wordsT [x, y]).toArray⟩ ++ ⟨#[32]⟩ ++ ⟨(dashL u).toArray⟩))
 | _ => True
theorem wrφ_0 (ob : Nat) (S : List UInt8) (n a m x y : Int) (s u : ByteArray) (V : World) (v : Value) (h : wrφ ob S n a m x y s u 0 V v) : v = .string ⟨S.toArray⟩ := h
theorem wrφ_1 (ob : Nat) (S : List UInt8) (n a m x y : Int) (s u : ByteArray) (V : World) (v : Value) (h : wrφ ob S n a m x y s u 1 V v) : v = .pointer (some ⟨ob, 0, none⟩) := h
theorem wrφ_2 (ob : Nat) (S : List UInt8) (n a m x y : Int) (s u : ByteArray) (V : World) (v : Value) (h : wrφ ob S n a m x y s u 2 V v) : v = .agg #[.int .i64 n, .int .i64 a, .string s, .int .i64 m] := h
theorem wrφ_3 (ob : Nat) (S : List UInt8) (n a m x y : Int) (s u : ByteArray) (V : World) (v : Value) (h : wrφ ob S n a m x y s u 3 V v) : v = .string ⟨(Lib.join [Lib.itoa n, Lib.itoa a, dashL s, Lib.itoa m] [32]).toArray⟩ := h
theorem wrφ_4 (ob : Nat) (S : List UInt8) (n a m x y : Int) (s u : ByteArray) (V : World) (v : Value) (h : wrφ ob S n a m x y s u 4 V v) : v = .string (⟨(Lib.join [Lib.itoa n, Lib.itoa a, dashL s, Lib.itoa m] [32]).toArray⟩ ++ ⟨#[32]⟩) := h
theorem wrφ_5 (ob : Nat) (S : List UInt8) (n a m x y : Int) (s u : ByteArray) (V : World) (v : Value) (h : wrφ ob S n a m x y s u 5 V v) : v = .pointer (some ⟨ob, 4, none⟩) := h
theorem wrφ_6 (ob : Nat) (S : List UInt8) (n a m x y : Int) (s u : ByteArray) (V : World) (v : Value) (h : wrφ ob S n a m x y s u 6 V v) : v = .pointer (some ⟨ob, 4, none⟩) := h
theorem wrφ_7 (ob : Nat) (S : List UInt8) (n a m x y : Int) (s u : ByteArray) (V : World) (v : Value) (h : wrφ ob S n a m x y s u 7 V v) : v = .int .i64 x := h
theorem wrφ_8 (ob : Nat) (S : List UInt8) (n a m x y : Int) (s u : ByteArray) (V : World) (v : Value) (h : wrφ ob S n a m x y s u 8 V v) : v = .pointer (some ⟨ob, 4, none⟩) := h
theorem wrφ_9 (ob : Nat) (S : List UInt8) (n a m x y : Int) (s u : ByteArray) (V : World) (v : Value) (h : wrφ ob S n a m x y s u 9 V v) : v = .pointer (some ⟨ob, 5, none⟩) := h
theorem wrφ_10 (ob : Nat) (S : List UInt8) (n a m x y : Int) (s u : ByteArray) (V : World) (v : Value) (h : wrφ ob S n a m x y s u 10 V v) : v = .int .i64 y := h
theorem wrφ_11 (ob : Nat) (S : List UInt8) (n a m x y : Int) (s u : ByteArray) (V : World) (v : Value) (h : wrφ ob S n a m x y s u 11 V v) : ∃ g, v = .slice (some ⟨g, 0, none⟩) 2 2 /\ intsAt V (some ⟨g, 0, none⟩) [x, y] := h
theorem wrφ_12 (ob : Nat) (S : List UInt8) (n a m x y : Int) (s u : ByteArray) (V : World) (v : Value) (h : wrφ ob S n a m x y s u 12 V v) : v = .string ⟨(wordsT [x, y]).toArray⟩ := h
theorem wrφ_13 (ob : Nat) (S : List UInt8) (n a m x y : Int) (s u : ByteArray) (V : World) (v : Value) (h : wrφ ob S n a m x y s u 13 V v) : v = .string (⟨(Lib.join [Lib.itoa n, Lib.itoa a, dashL s, Lib.itoa m] [32]).toArray⟩ ++ ⟨#[32]⟩ ++ ⟨(wordsT [x, y]).toArray⟩) := h
theorem wrφ_14 (ob : Nat) (S : List UInt8) (n a m x y : Int) (s u : ByteArray) (V : World) (v : Value) (h : wrφ ob S n a m x y s u 14 V v) : v = .string (⟨(Lib.join [Lib.itoa n, Lib.itoa a, dashL s, Lib.itoa m] [32]).toArray⟩ ++ ⟨#[32]⟩ ++ ⟨(wordsT [x, y]).toArray⟩ ++ ⟨#[32]⟩) := h
theorem wrφ_15 (ob : Nat) (S : List UInt8) (n a m x y : Int) (s u : ByteArray) (V : World) (v : Value) (h : wrφ ob S n a m x y s u 15 V v) : v = .pointer (some ⟨ob, 6, none⟩) := h
theorem wrφ_16 (ob : Nat) (S : List UInt8) (n a m x y : Int) (s u : ByteArray) (V : World) (v : Value) (h : wrφ ob S n a m x y s u 16 V v) : v = .string u := h
theorem wrφ_17 (ob : Nat) (S : List UInt8) (n a m x y : Int) (s u : ByteArray) (V : World) (v : Value) (h : wrφ ob S n a m x y s u 17 V v) : v = .string ⟨(dashL u).toArray⟩ := h
theorem wrφ_18 (ob : Nat) (S : List UInt8) (n a m x y : Int) (s u : ByteArray) (V : World) (v : Value) (h : wrφ ob S n a m x y s u 18 V v) : v = .string (⟨(Lib.join [Lib.itoa n, Lib.itoa a, dashL s, Lib.itoa m] [32]).toArray⟩ ++ ⟨#[32]⟩ ++ ⟨(wordsT [x, y]).toArray⟩ ++ ⟨#[32]⟩ ++ ⟨(dashL u).toArray⟩) := h
theorem wrφ_19 (ob : Nat) (S : List UInt8) (n a m x y : Int) (s u : ByteArray) (V : World) (v : Value) (h : wrφ ob S n a m x y s u 19 V v) : v = .string (⟨S.toArray⟩ ++ (⟨(Lib.join [Lib.itoa n, Lib.itoa a, dashL s, Lib.itoa m] [32]).toArray⟩ ++ ⟨#[32]⟩ ++ ⟨(wordsT [x, y]).toArray⟩ ++ ⟨#[32]⟩ ++ ⟨(dashL u).toArray⟩)) := h
theorem wrφ_mono (ob : Nat) (S : List UInt8) (n a m x y : Int) (s u : ByteArray) (i : Nat) (V V' : World) (v : Value) (hb : Below V.heap.size V V') (h : wrφ ob S n a m x y s u i V v) : wrφ ob S n a m x y s u i V' v :=
 match i, h with
 | 0, h => h
 | 1, h => h
 | 2, h => h
 | 3, h => h
 | 4, h => h
 | 5, h => h
 | 6, h => h
 | 7, h => h
 | 8, h => h
 | 9, h => h
 | 10, h => h
 | 11, h => let ⟨g, e, hg⟩ := h; ⟨g, e, hg.below hb⟩
 | 12, h => h
 | 13, h => h
 | 14, h => h
 | 15, h => h
 | 16, h => h
 | 17, h => h
 | 18, h => h
 | 19, h => h
 | _ + 20, _ => trivial
theorem wrφ_list {X : List Value} (h : X.length = 20) : ∃ x0 x1 x2 x3 x4 x5 x6 x7 x8 x9 x10 x11 x12 x13 x14 x15 x16 x17 x18 x19, X = [x0, x1, x2, x3, x4, x5, x6, x7, x8, x9, x10, x11, x12, x13, x14, x15, x16, x17, x18, x19] :=
 match X, h with | [x0, x1, x2, x3, x4, x5, x6, x7, x8, x9, x10, x11, x12, x13, x14, x15, x16, x17, x18, x19], _ => ⟨x0, x1, x2, x3, x4, x5, x6, x7, x8, x9, x10, x11, x12, x13, x14, x15, x16, x17, x18, x19, rfl⟩
theorem fault_set {w V : World} {b : Nat} {u v : Value} (x y : Int) (hB : Below w.heap.size w V) (hb : w.heap.size <= b) (h0 : V.cell? ⟨b, 0, none⟩ = some u) (h1 : V.cell? ⟨b, 1, none⟩ = some v) :
  ∃ W, (V.setCell ⟨b, 0, none⟩ (.int .i64 x)).setCell ⟨b, 1, none⟩ (.int .i64 y) = W /\ W.cell? ⟨b, 0, none⟩ = some (.int .i64 x) /\ W.cell? ⟨b, 1, none⟩ = some (.int .i64 y) /\ Below w.heap.size w W :=
 ⟨_, rfl, (World.cell?_setCell_other _ _ _ _ (by simp)).trans (World.cell?_setCell_same _ _ _ h0), World.cell?_setCell_same _ _ _ ((World.cell?_setCell_other _ _ _ _ (by simp)).trans h1),
  (hB.setCell (p := ⟨b, 0, none⟩) hb _).setCell (p := ⟨b, 1, none⟩) hb _⟩
set_option maxRecDepth 100000 in
set_option maxHeartbeats 2000000 in
theorem rwrite_any (ao : Option Addr) (c : Nat) (l : List OpP) (w : World) (hl : opsAt w ao l) (hs : ∀ o ∈ l, o.key.word.size <= 100000 /\ o.value.size <= 100000) (ht : PowTab w) :
  Calls Tryz.prog 59 #[.slice ao l.length c] w fun e w' => e = .returned (.tuple #[.string ⟨(writeR l).1.toArray⟩, .agg #[.int .i64 (writeR l).2.1, .int .i64 (writeR l).2.2]]) /\ Below w.heap.size w w' := by
 have HS := Lib.hid hs
 have HT := Lib.hid ht
 have HL := Lib.hid hl
 clear hs ht hl
 obtain ⟨W, hW⟩ : ∃ W, W = w.alloc (.cells #[.int .i64 0, .int .i64 0] 61) := ⟨_, rfl⟩
 have bA : Below w.heap.size w W := by rw [hW]; exact (Below.refl _ w).alloc (Nat.le_refl _) _
 have hwW : w.heap.size < W.heap.size := by rw [hW]; simp
 have q0 : W.cell? ⟨w.heap.size, 0, none⟩ = some (.int .i64 0) := by rw [hW]; simp
 have q1 : W.cell? ⟨w.heap.size, 1, none⟩ = some (.int .i64 0) := by rw [hW]; simp
 have f0 : W.frozen? ⟨w.heap.size, 0, none⟩ = false := by rw [hW]; simp
 have f1 : W.frozen? ⟨w.heap.size, 1, none⟩ = false := by rw [hW]; simp
 have HW := Lib.hid hW
 have HB := Lib.hid bA
 clear hW bA
 cases hlen : lenB l
 · rw [writeR_len hlen]
   have hlen' : inB (l.length : Int) 1 8 = false := by unfold inB; unfold lenB at hlen; rw [<- hlen, Bool.eq_iff_iff]; simp; omega
   have HN := Lib.hid hlen'
   clear hlen hlen'
   have HI : ∀ W, Calls Tryz.prog 66 #[.int .i64 l.length, .int .i64 1, .int .i64 8] W fun e w' => e = .returned (.bool false) /\ W = w' := fun W => by have := in_any l.length 1 8 W; rw [HN.out] at this; exact this
   go_enter Tryz.func59, Tryz.ntmps59
   go_wp2_with fail
   rw [<- HW.out]
   go_wp2_with (first | (go_at_call 66; refine (HI _).mono ?_; rintro e w' ⟨rfl, rfl⟩) | (go_at_call 61; refine (rbare_any 4 _).mono ?_; rintro e w1 ⟨rfl, b1⟩; have r0 := below_cell b1 hwW q0; have r1 := below_cell b1 hwW q1; have s0 := below_frozen b1 hwW f0; have s1 := below_frozen b1 hwW f1))
   obtain ⟨W3, hW3, k0, k1, hB3⟩ := fault_set 4 (-1) (below_step HB.out b1) (Nat.le_refl _) r0 r1
   rw [hW3]
   exact bodyPost_ret (v := .tuple #[.string ⟨#[]⟩, .agg #[.int .i64 4, .int .i64 (-1)]]) (by simp [results, Tryz.results59, go_sem, k0, k1]) rfl ⟨rfl, hB3⟩
 · have hlen' : inB (l.length : Int) 1 8 = true := by unfold inB; unfold lenB at hlen; rw [<- hlen, Bool.eq_iff_iff]; simp; omega
   have HN := Lib.hid hlen'
   have HLen := Lib.hid hlen
   have hn := lenB_le hlen
   clear hlen hlen'
   have HI : ∀ W, Calls Tryz.prog 66 #[.int .i64 l.length, .int .i64 1, .int .i64 8] W fun e w' => e = .returned (.bool true) /\ W = w' := fun W => by have := in_any l.length 1 8 W; rw [HN.out] at this; exact this
   go_enter Tryz.func59, Tryz.ntmps59
   go_wp2_with (go_at_call 66; refine (HI _).mono ?_; rintro e w' ⟨rfl, rfl⟩)
   rw [<- HW.out]
   go_loopw [4, 14] (fun sv i wr => ∃ (k : Nat) (T : List UInt8), k <= l.length /\ i = .int .i64 k /\ sv = .string ⟨T.toArray⟩ /\ Hid (T = writeT (l.take k)) /\ T.length <= k * 501 /\ Hid ((l.take k).all opB = true) /\ Below W.heap.size W wr) (fun _ i _ => l.length - (intOf i).toNat)
   case atStart => exact ⟨0, [], Nat.zero_le _, rfl, rfl, Lib.hid (by simp [writeT, Lib.join, List.intercalate]), by simp, Lib.hid (by simp), Below.refl _ _⟩
   case round =>
    obtain ⟨k, T, hk, rfl, rfl, hT, hTl, hall, hB⟩ := hrel
    have hwr : w.heap.size < wr.heap.size := Nat.lt_of_lt_of_le hwW hB.size
    have r0 := below_cell hB hwW q0
    have r1 := below_cell hB hwW q1
    have s0 := below_frozen hB hwW f0
    have s1 := below_frozen hB hwW f1
    have hBw := below_trans HB.out HB.out.size hB
    have HBr := Lib.hid hB
    clear hB
    by_cases hlt : k < l.length
    · obtain ⟨b, f, n, a, s, m, x, y, u, g1, rfl, hb, c0, c1, c2, c3, c4, c5, c6⟩ := opsAt_get (HL.out.below hBw) hlt
      have hmem : (⟨⟨n, a, s, m⟩, x, y, u⟩ : OpP) ∈ l := List.mem_of_getElem? g1.out
      have hsz := HS.out _ hmem
      simp only at hsz
      obtain ⟨W1, hW1⟩ : ∃ W1, W1 = wr.alloc (.cells #[.int .i64 n, .int .i64 a, .string s, .int .i64 m, .int .i64 x, .int .i64 y, .string u] 70) := ⟨_, rfl⟩
      have b1 : Below wr.heap.size wr W1 := by rw [hW1]; exact (Below.refl _ wr).alloc (Nat.le_refl _) _
      have hoW : wr.heap.size < W1.heap.size := by rw [hW1]; simp
      obtain ⟨ob, hob⟩ : ∃ ob, ob = wr.heap.size := ⟨_, rfl⟩
      rw [<- hob] at hoW
      have d0 : W1.cell? ⟨ob, 0, none⟩ = some (.int .i64 n) := by rw [hob, hW1]; simp
      have d1 : W1.cell? ⟨ob, 1, none⟩ = some (.int .i64 a) := by rw [hob, hW1]; simp
      have d2 : W1.cell? ⟨ob, 2, none⟩ = some (.string s) := by rw [hob, hW1]; simp
      have d3 : W1.cell? ⟨ob, 3, none⟩ = some (.int .i64 m) := by rw [hob, hW1]; simp
      have d4 : W1.cell? ⟨ob, 4, none⟩ = some (.int .i64 x) := by rw [hob, hW1]; simp
      have d5 : W1.cell? ⟨ob, 5, none⟩ = some (.int .i64 y) := by rw [hob, hW1]; simp
      have d6 : W1.cell? ⟨ob, 6, none⟩ = some (.string u) := by rw [hob, hW1]; simp
      have HW1 := Lib.hid hW1
      have HOB := Lib.hid hob
      have hOp := Lib.hid fun W' => rop_any n a m x y s u W' (by unfold maxLen; omega) (by unfold maxLen; omega)
      have r0 := below_cell b1 hwr r0
      have r1 := below_cell b1 hwr r1
      have s0 := below_frozen b1 hwr s0
      have s1 := below_frozen b1 hwr s1
      have hwr1 : w.heap.size < W1.heap.size := Nat.lt_of_lt_of_le hwr b1.size
      have hBw1 := below_trans hBw hBw.size b1
      have HB1 := Lib.hid hBw1
      have HBw := Lib.hid hBw
      clear hW1 hob hBw1 hBw b1
      go_wp2_with fail
      rw [<- HW1.out, <- HOB.out]
      cases hv : opB ⟨⟨n, a, s, m⟩, x, y, u⟩
      · refine (hOp.out W1).mono ?_
        rw [hv]
        rintro e w2 ⟨rfl, b2⟩
        have r0 := below_cell b2 hwr1 r0
        have r1 := below_cell b2 hwr1 r1
        have s0 := below_frozen b2 hwr1 s0
        have s1 := below_frozen b2 hwr1 s1
        go_wp2_with fail
        obtain ⟨W3, hW3, k0, k1, hB3⟩ := fault_set 1 k (below_trans HB1.out HB1.out.size b2) (Nat.le_refl _) r0 r1
        rw [hW3]
        exact bodyPost_ret (v := .tuple #[.string ⟨#[]⟩, .agg #[.int .i64 1, .int .i64 k]]) (by simp [results, Tryz.results59, go_sem, k0, k1]) rfl ⟨ret_write (writeR_bad HLen.out g1.out hall.out hv).symm, hB3⟩
      · refine (hOp.out W1).mono ?_
        rw [hv]
        rintro e w2 ⟨rfl, b2⟩
        have hwf := opB_wf hv
        have hlen1 := Lib.hid (opT_len hv)
        obtain ⟨i1, i2, i3, i4, i5⟩ := hwf
        have hw : i64B n /\ i64B a /\ i64B m := ⟨i1, i2, i3⟩
        have hwl : ∀ z ∈ [x, y], i64B z := by intro z hz; simp at hz; rcases hz with rfl | rfl; exact i4; exact i5
        have hV := Lib.hid hv
        clear hv
        have c0 := below_cell b2 hoW d0
        have c1 := below_cell b2 hoW d1
        have c2 := below_cell b2 hoW d2
        have c3 := below_cell b2 hoW d3
        have c4 := below_cell b2 hoW d4
        have c5 := below_cell b2 hoW d5
        have c6 := below_cell b2 hoW d6
        have hoW := Nat.lt_of_lt_of_le hoW b2.size
        have tW := HT.out.below (below_trans HB1.out HB1.out.size b2)
        have B12 := Lib.hid (below_step (by rw [HW1.out]; exact (Below.refl _ wr).alloc (Nat.le_refl _) _ : Below wr.heap.size wr W1) b2)
        have l1 := wordsT_len [x, y] hwl
        have l2 := dashL_len s
        have l3 := dashL_len u
        have l4 := join_len [32] 100002 [Lib.itoa n, Lib.itoa a, dashL s, Lib.itoa m] (by
         have j1 := Lib.itoa_length_le _ i1.1 i1.2
         have j2 := Lib.itoa_length_le _ i2.1 i2.2
         have j3 := Lib.itoa_length_le _ i3.1 i3.2
         simp only at j1 j2 j3
         intro p hp; simp only [List.mem_cons, List.not_mem_nil, or_false] at hp; rcases hp with rfl | rfl | rfl | rfl <;> omega)
        simp only [List.length_cons, List.length_nil] at l1 l4
        clear b2 d0 d1 d2 d3 d4 d5 d6 r0 r1 s0 s1 hOp i1 i2 i3 i4 i5
        obtain ⟨S, hS⟩ : ∃ S, S = ahead T k := ⟨_, rfl⟩
        have hSe := Lib.hid hS
        clear hS
        by_cases hk0 : 0 < k
        · have hcat : ¬ 9223372036854775807 < T.length + 1 := by omega
          have eS : (⟨T.toArray⟩ : ByteArray) ++ ⟨#[43]⟩ = ⟨S.toArray⟩ := bytes_ext (by rw [hSe.out]; simp [ahead, hk0])
          have HE := Lib.hid eS
          clear eS
          have hS : S.length <= k * 501 + 1 := by have := ahead_len T k; rw [hSe.out]; omega
          go_wp2_with fail
          rw [HE.out]
          refine wp_region_dag_at 28 20 _ (fun V => Below w2.heap.size w2 V) (fun V V' => Below V.heap.size V V') (wrφ ob S n a m x y s u) rfl (by kernel_rfl) (by kernel_rfl) ?_ rfl (Below.refl _ _).drew ?_ ?_
          · exact fun i V V' v _ _ hb h => wrφ_mono _ _ _ _ _ _ _ _ _ i V V' v hb h
          · simp only [List.take_succ_cons, List.take_zero, DagSteps, and_true]
            refine ⟨?_, ?_, ?_, ?_, ?_, ?_, ?_, ?_, ?_, ?_, ?_, ?_, ?_, ?_, ?_, ?_, ?_, ?_, ?_, ?_⟩
            · intro A V K hC hP hd hK
              have p4 : A.tmps[4]?.getD undef = .string ⟨S.toArray⟩ := evalT (hP 4 (of_decide_eq_true rfl))
              clear hP hd
              unfold Oper.wp
              go_simp
              exact hK _ _ hC (Below.refl _ _) rfl
            · intro A V K hC hP hd hK
              have p6 : A.tmps[6]?.getD undef = .pointer (some ⟨ob, 0, none⟩) := evalT (hP 6 (of_decide_eq_true rfl))
              clear hP hd
              unfold Oper.wp
              go_simp
              exact hK _ _ hC (Below.refl _ _) rfl
            · intro A V K hC hP hd hK
              have e1 : A.tmps[29]?.getD undef = .pointer (some ⟨ob, 0, none⟩) := evalT (wrφ_1 _ _ _ _ _ _ _ _ _ _ _ (hd 1 (by kernel_rfl)))
              have d0 := below_cell hC hoW c0
              have d1 := below_cell hC hoW c1
              have d2 := below_cell hC hoW c2
              have d3 := below_cell hC hoW c3
              clear hP hd
              unfold Oper.wp
              go_simp
              exact hK _ _ hC (Below.refl _ _) rfl
            · intro A V K hC hP hd hK
              have e2 : A.tmps[30]?.getD undef = .agg #[.int .i64 n, .int .i64 a, .string s, .int .i64 m] := evalT (wrφ_2 _ _ _ _ _ _ _ _ _ _ _ (hd 2 (by kernel_rfl)))
              clear hP hd
              unfold Oper.wp
              go_simp
              refine (keyText_any n a m s V hw.1 hw.2.1 hw.2.2 hsz.1 (tW.below hC)).mono ?_
              rintro e w1 ⟨rfl, h1⟩
              exact hK _ _ (below_trans hC hC.size h1) h1 rfl
            · intro A V K hC hP hd hK
              have e3 : A.tmps[31]?.getD undef = .string ⟨(Lib.join [Lib.itoa n, Lib.itoa a, dashL s, Lib.itoa m] [32]).toArray⟩ := evalT (wrφ_3 _ _ _ _ _ _ _ _ _ _ _ (hd 3 (by kernel_rfl)))
              clear hP hd
              unfold Oper.wp
              go_simp
              rw [if_neg (by omega)]
              exact hK _ _ hC (Below.refl _ _) rfl
            · intro A V K hC hP hd hK
              have p6 : A.tmps[6]?.getD undef = .pointer (some ⟨ob, 0, none⟩) := evalT (hP 6 (of_decide_eq_true rfl))
              clear hP hd
              unfold Oper.wp
              go_simp
              exact hK _ _ hC (Below.refl _ _) rfl
            · intro A V K hC hP hd hK
              have e5 : A.tmps[33]?.getD undef = .pointer (some ⟨ob, 4, none⟩) := evalT (wrφ_5 _ _ _ _ _ _ _ _ _ _ _ (hd 5 (by kernel_rfl)))
              clear hP hd
              unfold Oper.wp
              go_simp
              exact hK _ _ hC (Below.refl _ _) rfl
            · intro A V K hC hP hd hK
              have e6 : A.tmps[34]?.getD undef = .pointer (some ⟨ob, 4, none⟩) := evalT (wrφ_6 _ _ _ _ _ _ _ _ _ _ _ (hd 6 (by kernel_rfl)))
              have d4 := below_cell hC hoW c4
              clear hP hd
              unfold Oper.wp
              go_simp
              exact hK _ _ hC (Below.refl _ _) rfl
            · intro A V K hC hP hd hK
              have p6 : A.tmps[6]?.getD undef = .pointer (some ⟨ob, 0, none⟩) := evalT (hP 6 (of_decide_eq_true rfl))
              clear hP hd
              unfold Oper.wp
              go_simp
              exact hK _ _ hC (Below.refl _ _) rfl
            · intro A V K hC hP hd hK
              have e8 : A.tmps[36]?.getD undef = .pointer (some ⟨ob, 4, none⟩) := evalT (wrφ_8 _ _ _ _ _ _ _ _ _ _ _ (hd 8 (by kernel_rfl)))
              clear hP hd
              unfold Oper.wp
              go_simp
              exact hK _ _ hC (Below.refl _ _) rfl
            · intro A V K hC hP hd hK
              have e9 : A.tmps[37]?.getD undef = .pointer (some ⟨ob, 5, none⟩) := evalT (wrφ_9 _ _ _ _ _ _ _ _ _ _ _ (hd 9 (by kernel_rfl)))
              have d5 := below_cell hC hoW c5
              clear hP hd
              unfold Oper.wp
              go_simp
              exact hK _ _ hC (Below.refl _ _) rfl
            · intro A V K hC hP hd hK
              have e7 : A.tmps[35]?.getD undef = .int .i64 x := evalT (wrφ_7 _ _ _ _ _ _ _ _ _ _ _ (hd 7 (by kernel_rfl)))
              have e10 : A.tmps[38]?.getD undef = .int .i64 y := evalT (wrφ_10 _ _ _ _ _ _ _ _ _ _ _ (hd 10 (by kernel_rfl)))
              clear hP hd
              unfold Oper.wp
              go_simp
              exact hK _ _ (hC.alloc hC.size _) ((Below.refl _ _).alloc (Nat.le_refl _) _) ⟨_, rfl, intsAt_new _ [x, y] (by simp)⟩
            · intro A V K hC hP hd hK
              have h11 := hd 11 (by kernel_rfl)
              have h11 := wrφ_11 _ _ _ _ _ _ _ _ _ _ _ h11
              obtain ⟨g, eg, hg⟩ := h11
              have e11 := evalT (t := 39) eg
              clear hP hd
              unfold Oper.wp
              go_simp
              refine (words_any _ 2 [x, y] V hg hwl (by simp) (tW.below hC)).mono ?_
              rintro e w1 ⟨rfl, h1⟩
              exact hK _ _ (below_trans hC hC.size h1) h1 rfl
            · intro A V K hC hP hd hK
              have e4 : A.tmps[32]?.getD undef = .string (⟨(Lib.join [Lib.itoa n, Lib.itoa a, dashL s, Lib.itoa m] [32]).toArray⟩ ++ ⟨#[32]⟩) := evalT (wrφ_4 _ _ _ _ _ _ _ _ _ _ _ (hd 4 (by kernel_rfl)))
              have e12 : A.tmps[40]?.getD undef = .string ⟨(wordsT [x, y]).toArray⟩ := evalT (wrφ_12 _ _ _ _ _ _ _ _ _ _ _ (hd 12 (by kernel_rfl)))
              clear hP hd
              unfold Oper.wp
              go_simp
              rw [if_neg (by omega)]
              exact hK _ _ hC (Below.refl _ _) rfl
            · intro A V K hC hP hd hK
              have e13 : A.tmps[41]?.getD undef = .string (⟨(Lib.join [Lib.itoa n, Lib.itoa a, dashL s, Lib.itoa m] [32]).toArray⟩ ++ ⟨#[32]⟩ ++ ⟨(wordsT [x, y]).toArray⟩) := evalT (wrφ_13 _ _ _ _ _ _ _ _ _ _ _ (hd 13 (by kernel_rfl)))
              clear hP hd
              unfold Oper.wp
              go_simp
              rw [if_neg (by omega)]
              exact hK _ _ hC (Below.refl _ _) rfl
            · intro A V K hC hP hd hK
              have p6 : A.tmps[6]?.getD undef = .pointer (some ⟨ob, 0, none⟩) := evalT (hP 6 (of_decide_eq_true rfl))
              clear hP hd
              unfold Oper.wp
              go_simp
              exact hK _ _ hC (Below.refl _ _) rfl
            · intro A V K hC hP hd hK
              have e15 : A.tmps[43]?.getD undef = .pointer (some ⟨ob, 6, none⟩) := evalT (wrφ_15 _ _ _ _ _ _ _ _ _ _ _ (hd 15 (by kernel_rfl)))
              have d6 := below_cell hC hoW c6
              clear hP hd
              unfold Oper.wp
              go_simp
              exact hK _ _ hC (Below.refl _ _) rfl
            · intro A V K hC hP hd hK
              have e16 : A.tmps[44]?.getD undef = .string u := evalT (wrφ_16 _ _ _ _ _ _ _ _ _ _ _ (hd 16 (by kernel_rfl)))
              clear hP hd
              unfold Oper.wp
              go_simp
              refine (dashR_any u V).mono ?_
              rintro e w1 ⟨rfl, rfl⟩
              exact hK _ _ hC (Below.refl _ _) rfl
            · intro A V K hC hP hd hK
              have e14 : A.tmps[42]?.getD undef = .string (⟨(Lib.join [Lib.itoa n, Lib.itoa a, dashL s, Lib.itoa m] [32]).toArray⟩ ++ ⟨#[32]⟩ ++ ⟨(wordsT [x, y]).toArray⟩ ++ ⟨#[32]⟩) := evalT (wrφ_14 _ _ _ _ _ _ _ _ _ _ _ (hd 14 (by kernel_rfl)))
              have e17 : A.tmps[45]?.getD undef = .string ⟨(dashL u).toArray⟩ := evalT (wrφ_17 _ _ _ _ _ _ _ _ _ _ _ (hd 17 (by kernel_rfl)))
              clear hP hd
              unfold Oper.wp
              go_simp
              rw [if_neg (by omega)]
              exact hK _ _ hC (Below.refl _ _) rfl
            · intro A V K hC hP hd hK
              have e0 : A.tmps[28]?.getD undef = .string ⟨S.toArray⟩ := evalT (wrφ_0 _ _ _ _ _ _ _ _ _ _ _ (hd 0 (by kernel_rfl)))
              have e18 : A.tmps[46]?.getD undef = .string (⟨(Lib.join [Lib.itoa n, Lib.itoa a, dashL s, Lib.itoa m] [32]).toArray⟩ ++ ⟨#[32]⟩ ++ ⟨(wordsT [x, y]).toArray⟩ ++ ⟨#[32]⟩ ++ ⟨(dashL u).toArray⟩) := evalT (wrφ_18 _ _ _ _ _ _ _ _ _ _ _ (hd 18 (by kernel_rfl)))
              clear hP hd
              unfold Oper.wp
              go_simp
              rw [if_neg (by omega)]
              exact hK _ _ hC (Below.refl _ _) rfl
          · intro X w3 hX hC hφ
            obtain ⟨x0, x1, x2, x3, x4, x5, x6, x7, x8, x9, x10, x11, x12, x13, x14, x15, x16, x17, x18, x19, rfl⟩ := wrφ_list hX
            have e := wrφ_19 _ _ _ _ _ _ _ _ _ _ _ (hφ 19 (of_decide_eq_true rfl))
            have e : x19 = .string (⟨S.toArray⟩ ++ (⟨(Lib.join [Lib.itoa n, Lib.itoa a, dashL s, Lib.itoa m] [32]).toArray⟩ ++ ⟨#[32]⟩ ++ ⟨(wordsT [x, y]).toArray⟩ ++ ⟨#[32]⟩ ++ ⟨(dashL u).toArray⟩)) := e
            rw [e]
            clear e hφ hX
            unfold Oper.wp
            go_simp
            rename_i hK
            refine hK _ _ ?_
            have eT : (⟨S.toArray⟩ : ByteArray) ++ (⟨(Lib.join [Lib.itoa n, Lib.itoa a, dashL s, Lib.itoa m] [32]).toArray⟩ ++ ⟨#[32]⟩ ++ ⟨(wordsT [x, y]).toArray⟩ ++ ⟨#[32]⟩ ++ ⟨(dashL u).toArray⟩) = ⟨(S ++ opT ⟨⟨n, a, s, m⟩, x, y, u⟩).toArray⟩ := bytes_ext (by simp [opT, opWs, wordsT, Lib.join, List.intercalate, List.intersperse])
            rw [eT]
            clear eT
            go_wp2
            exact ⟨⟨k + 1, S ++ opT ⟨⟨n, a, s, m⟩, x, y, u⟩, by omega, by go_num, rfl, Lib.hid (by rw [writeT_snoc g1.out, <- hT.out, hSe.out]), by have := hlen1.out; simp only [List.length_append]; omega, Lib.hid (all_snoc g1.out hall.out hV.out), below_trans HBr.out HBr.out.size (below_step B12.out hC)⟩, by simp [intOf]; omega⟩
        · have eS : (⟨T.toArray⟩ : ByteArray) = ⟨S.toArray⟩ := bytes_ext (by rw [hSe.out]; simp [ahead, hk0])
          have HE := Lib.hid eS
          clear eS
          have hg1 : ¬ (0 : Int) < (k : Int) := by omega
          have hg2 : decide ((0 : Int) < (k : Int)) = false := by simpa using hk0
          have hS : S.length <= k * 501 + 1 := by have := ahead_len T k; rw [hSe.out]; omega
          go_wp2_with fail
          rw [HE.out]
          refine wp_region_dag_at 28 20 _ (fun V => Below w2.heap.size w2 V) (fun V V' => Below V.heap.size V V') (wrφ ob S n a m x y s u) rfl (by kernel_rfl) (by kernel_rfl) ?_ rfl (Below.refl _ _).drew ?_ ?_
          · exact fun i V V' v _ _ hb h => wrφ_mono _ _ _ _ _ _ _ _ _ i V V' v hb h
          · simp only [List.take_succ_cons, List.take_zero, DagSteps, and_true]
            refine ⟨?_, ?_, ?_, ?_, ?_, ?_, ?_, ?_, ?_, ?_, ?_, ?_, ?_, ?_, ?_, ?_, ?_, ?_, ?_, ?_⟩
            · intro A V K hC hP hd hK
              have p4 : A.tmps[4]?.getD undef = .string ⟨S.toArray⟩ := evalT (hP 4 (of_decide_eq_true rfl))
              clear hP hd
              unfold Oper.wp
              go_simp
              exact hK _ _ hC (Below.refl _ _) rfl
            · intro A V K hC hP hd hK
              have p6 : A.tmps[6]?.getD undef = .pointer (some ⟨ob, 0, none⟩) := evalT (hP 6 (of_decide_eq_true rfl))
              clear hP hd
              unfold Oper.wp
              go_simp
              exact hK _ _ hC (Below.refl _ _) rfl
            · intro A V K hC hP hd hK
              have e1 : A.tmps[29]?.getD undef = .pointer (some ⟨ob, 0, none⟩) := evalT (wrφ_1 _ _ _ _ _ _ _ _ _ _ _ (hd 1 (by kernel_rfl)))
              have d0 := below_cell hC hoW c0
              have d1 := below_cell hC hoW c1
              have d2 := below_cell hC hoW c2
              have d3 := below_cell hC hoW c3
              clear hP hd
              unfold Oper.wp
              go_simp
              exact hK _ _ hC (Below.refl _ _) rfl
            · intro A V K hC hP hd hK
              have e2 : A.tmps[30]?.getD undef = .agg #[.int .i64 n, .int .i64 a, .string s, .int .i64 m] := evalT (wrφ_2 _ _ _ _ _ _ _ _ _ _ _ (hd 2 (by kernel_rfl)))
              clear hP hd
              unfold Oper.wp
              go_simp
              refine (keyText_any n a m s V hw.1 hw.2.1 hw.2.2 hsz.1 (tW.below hC)).mono ?_
              rintro e w1 ⟨rfl, h1⟩
              exact hK _ _ (below_trans hC hC.size h1) h1 rfl
            · intro A V K hC hP hd hK
              have e3 : A.tmps[31]?.getD undef = .string ⟨(Lib.join [Lib.itoa n, Lib.itoa a, dashL s, Lib.itoa m] [32]).toArray⟩ := evalT (wrφ_3 _ _ _ _ _ _ _ _ _ _ _ (hd 3 (by kernel_rfl)))
              clear hP hd
              unfold Oper.wp
              go_simp
              rw [if_neg (by omega)]
              exact hK _ _ hC (Below.refl _ _) rfl
            · intro A V K hC hP hd hK
              have p6 : A.tmps[6]?.getD undef = .pointer (some ⟨ob, 0, none⟩) := evalT (hP 6 (of_decide_eq_true rfl))
              clear hP hd
              unfold Oper.wp
              go_simp
              exact hK _ _ hC (Below.refl _ _) rfl
            · intro A V K hC hP hd hK
              have e5 : A.tmps[33]?.getD undef = .pointer (some ⟨ob, 4, none⟩) := evalT (wrφ_5 _ _ _ _ _ _ _ _ _ _ _ (hd 5 (by kernel_rfl)))
              clear hP hd
              unfold Oper.wp
              go_simp
              exact hK _ _ hC (Below.refl _ _) rfl
            · intro A V K hC hP hd hK
              have e6 : A.tmps[34]?.getD undef = .pointer (some ⟨ob, 4, none⟩) := evalT (wrφ_6 _ _ _ _ _ _ _ _ _ _ _ (hd 6 (by kernel_rfl)))
              have d4 := below_cell hC hoW c4
              clear hP hd
              unfold Oper.wp
              go_simp
              exact hK _ _ hC (Below.refl _ _) rfl
            · intro A V K hC hP hd hK
              have p6 : A.tmps[6]?.getD undef = .pointer (some ⟨ob, 0, none⟩) := evalT (hP 6 (of_decide_eq_true rfl))
              clear hP hd
              unfold Oper.wp
              go_simp
              exact hK _ _ hC (Below.refl _ _) rfl
            · intro A V K hC hP hd hK
              have e8 : A.tmps[36]?.getD undef = .pointer (some ⟨ob, 4, none⟩) := evalT (wrφ_8 _ _ _ _ _ _ _ _ _ _ _ (hd 8 (by kernel_rfl)))
              clear hP hd
              unfold Oper.wp
              go_simp
              exact hK _ _ hC (Below.refl _ _) rfl
            · intro A V K hC hP hd hK
              have e9 : A.tmps[37]?.getD undef = .pointer (some ⟨ob, 5, none⟩) := evalT (wrφ_9 _ _ _ _ _ _ _ _ _ _ _ (hd 9 (by kernel_rfl)))
              have d5 := below_cell hC hoW c5
              clear hP hd
              unfold Oper.wp
              go_simp
              exact hK _ _ hC (Below.refl _ _) rfl
            · intro A V K hC hP hd hK
              have e7 : A.tmps[35]?.getD undef = .int .i64 x := evalT (wrφ_7 _ _ _ _ _ _ _ _ _ _ _ (hd 7 (by kernel_rfl)))
              have e10 : A.tmps[38]?.getD undef = .int .i64 y := evalT (wrφ_10 _ _ _ _ _ _ _ _ _ _ _ (hd 10 (by kernel_rfl)))
              clear hP hd
              unfold Oper.wp
              go_simp
              exact hK _ _ (hC.alloc hC.size _) ((Below.refl _ _).alloc (Nat.le_refl _) _) ⟨_, rfl, intsAt_new _ [x, y] (by simp)⟩
            · intro A V K hC hP hd hK
              have h11 := hd 11 (by kernel_rfl)
              have h11 := wrφ_11 _ _ _ _ _ _ _ _ _ _ _ h11
              obtain ⟨g, eg, hg⟩ := h11
              have e11 := evalT (t := 39) eg
              clear hP hd
              unfold Oper.wp
              go_simp
              refine (words_any _ 2 [x, y] V hg hwl (by simp) (tW.below hC)).mono ?_
              rintro e w1 ⟨rfl, h1⟩
              exact hK _ _ (below_trans hC hC.size h1) h1 rfl
            · intro A V K hC hP hd hK
              have e4 : A.tmps[32]?.getD undef = .string (⟨(Lib.join [Lib.itoa n, Lib.itoa a, dashL s, Lib.itoa m] [32]).toArray⟩ ++ ⟨#[32]⟩) := evalT (wrφ_4 _ _ _ _ _ _ _ _ _ _ _ (hd 4 (by kernel_rfl)))
              have e12 : A.tmps[40]?.getD undef = .string ⟨(wordsT [x, y]).toArray⟩ := evalT (wrφ_12 _ _ _ _ _ _ _ _ _ _ _ (hd 12 (by kernel_rfl)))
              clear hP hd
              unfold Oper.wp
              go_simp
              rw [if_neg (by omega)]
              exact hK _ _ hC (Below.refl _ _) rfl
            · intro A V K hC hP hd hK
              have e13 : A.tmps[41]?.getD undef = .string (⟨(Lib.join [Lib.itoa n, Lib.itoa a, dashL s, Lib.itoa m] [32]).toArray⟩ ++ ⟨#[32]⟩ ++ ⟨(wordsT [x, y]).toArray⟩) := evalT (wrφ_13 _ _ _ _ _ _ _ _ _ _ _ (hd 13 (by kernel_rfl)))
              clear hP hd
              unfold Oper.wp
              go_simp
              rw [if_neg (by omega)]
              exact hK _ _ hC (Below.refl _ _) rfl
            · intro A V K hC hP hd hK
              have p6 : A.tmps[6]?.getD undef = .pointer (some ⟨ob, 0, none⟩) := evalT (hP 6 (of_decide_eq_true rfl))
              clear hP hd
              unfold Oper.wp
              go_simp
              exact hK _ _ hC (Below.refl _ _) rfl
            · intro A V K hC hP hd hK
              have e15 : A.tmps[43]?.getD undef = .pointer (some ⟨ob, 6, none⟩) := evalT (wrφ_15 _ _ _ _ _ _ _ _ _ _ _ (hd 15 (by kernel_rfl)))
              have d6 := below_cell hC hoW c6
              clear hP hd
              unfold Oper.wp
              go_simp
              exact hK _ _ hC (Below.refl _ _) rfl
            · intro A V K hC hP hd hK
              have e16 : A.tmps[44]?.getD undef = .string u := evalT (wrφ_16 _ _ _ _ _ _ _ _ _ _ _ (hd 16 (by kernel_rfl)))
              clear hP hd
              unfold Oper.wp
              go_simp
              refine (dashR_any u V).mono ?_
              rintro e w1 ⟨rfl, rfl⟩
              exact hK _ _ hC (Below.refl _ _) rfl
            · intro A V K hC hP hd hK
              have e14 : A.tmps[42]?.getD undef = .string (⟨(Lib.join [Lib.itoa n, Lib.itoa a, dashL s, Lib.itoa m] [32]).toArray⟩ ++ ⟨#[32]⟩ ++ ⟨(wordsT [x, y]).toArray⟩ ++ ⟨#[32]⟩) := evalT (wrφ_14 _ _ _ _ _ _ _ _ _ _ _ (hd 14 (by kernel_rfl)))
              have e17 : A.tmps[45]?.getD undef = .string ⟨(dashL u).toArray⟩ := evalT (wrφ_17 _ _ _ _ _ _ _ _ _ _ _ (hd 17 (by kernel_rfl)))
              clear hP hd
              unfold Oper.wp
              go_simp
              rw [if_neg (by omega)]
              exact hK _ _ hC (Below.refl _ _) rfl
            · intro A V K hC hP hd hK
              have e0 : A.tmps[28]?.getD undef = .string ⟨S.toArray⟩ := evalT (wrφ_0 _ _ _ _ _ _ _ _ _ _ _ (hd 0 (by kernel_rfl)))
              have e18 : A.tmps[46]?.getD undef = .string (⟨(Lib.join [Lib.itoa n, Lib.itoa a, dashL s, Lib.itoa m] [32]).toArray⟩ ++ ⟨#[32]⟩ ++ ⟨(wordsT [x, y]).toArray⟩ ++ ⟨#[32]⟩ ++ ⟨(dashL u).toArray⟩) := evalT (wrφ_18 _ _ _ _ _ _ _ _ _ _ _ (hd 18 (by kernel_rfl)))
              clear hP hd
              unfold Oper.wp
              go_simp
              rw [if_neg (by omega)]
              exact hK _ _ hC (Below.refl _ _) rfl
          · intro X w3 hX hC hφ
            obtain ⟨x0, x1, x2, x3, x4, x5, x6, x7, x8, x9, x10, x11, x12, x13, x14, x15, x16, x17, x18, x19, rfl⟩ := wrφ_list hX
            have e := wrφ_19 _ _ _ _ _ _ _ _ _ _ _ (hφ 19 (of_decide_eq_true rfl))
            have e : x19 = .string (⟨S.toArray⟩ ++ (⟨(Lib.join [Lib.itoa n, Lib.itoa a, dashL s, Lib.itoa m] [32]).toArray⟩ ++ ⟨#[32]⟩ ++ ⟨(wordsT [x, y]).toArray⟩ ++ ⟨#[32]⟩ ++ ⟨(dashL u).toArray⟩)) := e
            rw [e]
            clear e hφ hX
            unfold Oper.wp
            go_simp
            rename_i hK
            refine hK _ _ ?_
            have eT : (⟨S.toArray⟩ : ByteArray) ++ (⟨(Lib.join [Lib.itoa n, Lib.itoa a, dashL s, Lib.itoa m] [32]).toArray⟩ ++ ⟨#[32]⟩ ++ ⟨(wordsT [x, y]).toArray⟩ ++ ⟨#[32]⟩ ++ ⟨(dashL u).toArray⟩) = ⟨(S ++ opT ⟨⟨n, a, s, m⟩, x, y, u⟩).toArray⟩ := bytes_ext (by simp [opT, opWs, wordsT, Lib.join, List.intercalate, List.intersperse])
            rw [eT]
            clear eT
            go_wp2
            exact ⟨⟨k + 1, S ++ opT ⟨⟨n, a, s, m⟩, x, y, u⟩, by omega, by go_num, rfl, Lib.hid (by rw [writeT_snoc g1.out, <- hT.out, hSe.out]), by have := hlen1.out; simp only [List.length_append]; omega, Lib.hid (all_snoc g1.out hall.out hV.out), below_trans HBr.out HBr.out.size (below_step B12.out hC)⟩, by simp [intOf]; omega⟩
    · have he : l.take k = l := List.take_of_length_le (by omega)
      rw [he] at hT hall
      have hBw := Lib.hid hBw
      go_wp2_with (go_at_call 61; refine (rbare_any 0 _).mono ?_; rintro e w1 ⟨rfl, b1⟩; have r0 := below_cell b1 hwr r0; have r1 := below_cell b1 hwr r1; have s0 := below_frozen b1 hwr s0; have s1 := below_frozen b1 hwr s1)
      obtain ⟨W3, hW3, k0, k1, hB3⟩ := fault_set 0 (-1) (below_trans hBw.out hBw.out.size b1) (Nat.le_refl _) r0 r1
      rw [hW3]
      exact bodyPost_ret (v := .tuple #[.string ⟨T.toArray⟩, .agg #[.int .i64 0, .int .i64 (-1)]]) (by simp [results, Tryz.results59, go_sem, k0, k1]) rfl ⟨by rw [hT.out]; exact ret_write (writeR_good HLen.out hall.out).symm, hB3⟩
end Go.Proofs.YtflhpmgjehjjkaaGreatDoor
