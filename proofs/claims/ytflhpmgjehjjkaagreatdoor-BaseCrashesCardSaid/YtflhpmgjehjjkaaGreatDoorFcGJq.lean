/- The document's Write. The condition: the library's table of powers of ten is as its own text lays it. -/
import Derived.Laws.AppendOwnNone
import Derived.Shelf.Strings.SlTrimAscii
import Derived.Lib.AppendIntMem
import Derived.Lib.ItoaLen
import Derived.Test.YtflhpmgjehjjkaaGreatDoorRowJq
import Derived.Test.YtflhpmgjehjjkaaGreatDoorSpanCJq
import Derived.Test.YtflhpmgjehjjkaaGreatDoorShelfJq
import Derived.Test.YtflhpmgjehjjkaaGreatDoorDag2Jq
import Derived.Test.YtflhpmgjehjjkaaGreatDoorFactMJq
namespace Go.Proofs.YtflhpmgjehjjkaaGreatDoor
open Go.RowKit Go.Shelf Go.Sort




end Go.Proofs.YtflhpmgjehjjkaaGreatDoor

namespace Go.Proofs.YtflhpmgjehjjkaaGreatDoor
open Go.RowKit

theorem size_toList (s : ByteArray) : s.data.toList.length = s.size := Array.length_toList
theorem empty_eq (s : ByteArray) : s.toList.isEmpty = decide (s.size = 0) := by
  rw [ByteArray.toList_eq, ← size_toList]
  cases s.data.toList <;> simp
theorem empty_true {s : ByteArray} (h : s.size = 0) : s.toList.isEmpty = true := by rw [empty_eq]; simpa using h
theorem empty_false {s : ByteArray} (h : ¬ s.size = 0) : s.toList.isEmpty = false := by rw [empty_eq]; simpa using h
theorem dash_no {s : ByteArray} (h : ¬ s.size = 0) : (⟨(dashL s).toArray⟩ : ByteArray) = s := by unfold dashL; rw [if_neg h]
theorem dash_yes {s : ByteArray} (h : s.size = 0) : dashL s = [45] := by unfold dashL; rw [if_pos h]

theorem dashF_any (s : ByteArray) (w : World) : Calls Tryz.prog 92 #[.string s] w fun e w' => e = .returned (.string ⟨(dashL s).toArray⟩) ∧ w' = w := by
  by_cases h : s.size = 0
  · have h1 := empty_true h
    rw [dash_yes h]
    go_enter Tryz.func92, Tryz.ntmps92
    go_wp2
    go_ret
    exact ⟨rfl, rfl⟩
  · have h1 := empty_false h
    rw [dash_no h]
    go_enter Tryz.func92, Tryz.ntmps92
    go_wp2
    go_ret
    exact ⟨rfl, rfl⟩
theorem key1_any (n : Int) (w : World) : Calls Tryz.prog 126 #[.int .i64 n] w fun e w' => e = .returned (.bool (nodeB n)) ∧ w' = w := by
  by_cases h1 : 0 ≤ n
  · by_cases h2 : n ≤ 1048576
    · go_enter Tryz.func126, Tryz.ntmps126
      go_wp2
      go_ret
      exact ⟨ret_bool (decide_eq_true (by omega)).symm, rfl⟩
    · go_enter Tryz.func126, Tryz.ntmps126
      go_wp2
      go_ret
      exact ⟨ret_bool (decide_eq_false (by omega)).symm, rfl⟩
  · go_enter Tryz.func126, Tryz.ntmps126
    go_wp2
    go_ret
    exact ⟨ret_bool (decide_eq_false (by omega)).symm, rfl⟩

/-! ### Words -/
theorem letters_str : (⟨#[97, 98, 99, 100, 101, 102, 103, 104, 105, 106, 107, 108, 109, 110, 111, 112, 113, 114, 115, 116, 117, 118, 119, 120, 121, 122, 48, 49, 50, 51, 52, 53, 54, 55, 56, 57]⟩ : ByteArray).data.toList = letters := rfl
theorem trim_any (s : ByteArray) (w : World) (hs : s.size ≤ maxLen) : Calls Tryz.prog 171 #[.string s, .string ⟨#[97, 98, 99, 100, 101, 102, 103, 104, 105, 106, 107, 108, 109, 110, 111, 112, 113, 114, 115, 116, 117, 118, 119, 120, 121, 122, 48, 49, 50, 51, 52, 53, 54, 55, 56, 57]⟩] w
    fun e w' => (∃ t : ByteArray, e = .returned (.string t) ∧ t.toList.isEmpty = s.data.toList.all isW) ∧ Below w.heap.size w w' :=
  (Any.strings_Trim_laid Tryz.lays160 (by kernel_rfl) s _ w (by unfold maxLen at hs; omega) (by decide) (ascii_of_all (by decide))).mono fun e w' ⟨h1, h2⟩ => ⟨⟨_, h1, by
    rw [letters_str, ByteArray.toList_eq, Bool.eq_iff_iff, ← trim_word]
    show (Lib.trimS s.data.toList letters).isEmpty = true ↔ _
    rw [List.isEmpty_iff]⟩, h2⟩
theorem fword_any (s : ByteArray) (w : World) (hs : s.size ≤ maxLen) : Calls Tryz.prog 127 #[.string s] w fun e w' => e = .returned (.bool (wordB s)) ∧ Below w.heap.size w w' := by
  have hT := trim_any s w hs
  unfold maxLen at hs
  by_cases h1 : 1 ≤ s.size
  · by_cases h2 : s.size ≤ 12
    · have e0 : wordB s = s.data.toList.all isW := by unfold wordB; simp [h1, h2]
      rw [e0]
      clear e0
      have HT := Lib.hid hT
      clear hT
      go_enter Tryz.func127, Tryz.ntmps127
      go_wp2_with (go_at_call 171; refine HT.out.mono ?_; rintro e w' ⟨⟨t, rfl, ht⟩, hb⟩; have Ht := Lib.hid ht; clear ht)
      go_ret
      exact ⟨ret_bool Ht.out, hb⟩
    · go_enter Tryz.func127, Tryz.ntmps127
      go_wp2
      go_ret
      exact ⟨ret_bool (by unfold wordB; simp [h2]), Below.refl _ _⟩
  · go_enter Tryz.func127, Tryz.ntmps127
    go_wp2
    go_ret
    exact ⟨ret_bool (by unfold wordB; simp [h1]), Below.refl _ _⟩
end Go.Proofs.YtflhpmgjehjjkaaGreatDoor

namespace Go.Proofs.YtflhpmgjehjjkaaGreatDoor
open Go.RowKit

theorem keyB_1 (a b : Int) (s : ByteArray) : keyB ⟨1, a, s, b⟩ = (nodeB a && (decide (s.size = 0) && decide (b = 0))) := rfl
theorem keyB_2 (a b : Int) (s : ByteArray) : keyB ⟨2, a, s, b⟩ = (nodeB a && (nodeB b && wordB s)) := rfl
theorem keyB_3 (a b : Int) (s : ByteArray) : keyB ⟨3, a, s, b⟩ = (nodeB a && (wordB s && decide (b = 0))) := rfl
theorem keyB_else (k a b : Int) (s : ByteArray) (h1 : k ≠ 1) (h2 : k ≠ 2) (h3 : k ≠ 3) : keyB ⟨k, a, s, b⟩ = false := by
  unfold keyB; simp [h1, h2, h3]

set_option maxHeartbeats 2000000 in
theorem fkey_any (k a b : Int) (s : ByteArray) (w : World) (hs : s.size ≤ maxLen) :
    Calls Tryz.prog 74 #[.agg #[.int .i64 k, .int .i64 a, .string s, .int .i64 b]] w fun e w' => e = .returned (.bool (keyB ⟨k, a, s, b⟩)) ∧ Below w.heap.size w w' := by
  have hs0 := hs
  unfold maxLen at hs
  have bA : Below w.heap.size w (w.alloc (.cells #[.int .i64 k, .int .i64 a, .string s, .int .i64 b] 44)) := (Below.refl _ w).alloc (Nat.le_refl _) _
  by_cases k1 : k = 1
  · subst k1
    rw [keyB_1]
    cases hn : nodeB a
    · go_enter Tryz.func74, Tryz.ntmps74
      go_wp2_with (go_at_call 126; refine (key1_any _ _).mono ?_; rintro e w' ⟨rfl, rfl⟩)
      go_ret
      exact ⟨rfl, bA⟩
    · by_cases h0 : s.size = 0
      · have e1 := empty_true h0
        rw [h0]
        by_cases hb : b = 0
        · subst hb
          go_enter Tryz.func74, Tryz.ntmps74
          go_wp2_with (go_at_call 126; refine (key1_any _ _).mono ?_; rintro e w' ⟨rfl, rfl⟩)
          go_ret
          exact ⟨rfl, bA⟩
        · have hb1 : ((b : Int) == 0) = false := by simpa using hb
          have hb2 : decide (b = 0) = false := decide_eq_false hb
          go_enter Tryz.func74, Tryz.ntmps74
          go_wp2_with (go_at_call 126; refine (key1_any _ _).mono ?_; rintro e w' ⟨rfl, rfl⟩)
          go_ret
          exact ⟨by rw [hb2]; rfl, bA⟩
      · have e1 := empty_false h0
        have h2 : decide (s.size = 0) = false := decide_eq_false h0
        rw [h2]
        clear h2
        go_enter Tryz.func74, Tryz.ntmps74
        go_wp2_with (go_at_call 126; refine (key1_any _ _).mono ?_; rintro e w' ⟨rfl, rfl⟩)
        go_ret
        exact ⟨rfl, bA⟩
  · have n1 : ((k : Int) == 1) = false := by simpa using k1
    by_cases k2 : k = 2
    · subst k2
      rw [keyB_2]
      cases hn : nodeB a
      · go_enter Tryz.func74, Tryz.ntmps74
        go_wp2_with (go_at_call 126; refine (key1_any _ _).mono ?_; rintro e w' ⟨rfl, rfl⟩)
        go_ret
        exact ⟨rfl, bA⟩
      · cases hm : nodeB b
        · go_enter Tryz.func74, Tryz.ntmps74
          go_wp2_with (go_at_call 126; refine (key1_any _ _).mono ?_; rintro e w' ⟨rfl, rfl⟩)
          go_ret
          exact ⟨rfl, bA⟩
        · go_enter Tryz.func74, Tryz.ntmps74
          go_wp2_with (first | (go_at_call 126; refine (key1_any _ _).mono ?_; rintro e w' ⟨rfl, rfl⟩) | (go_at_call 127; refine (fword_any _ _ hs0).mono ?_; rintro e w' ⟨rfl, hb⟩))
          go_ret
          exact ⟨rfl, below_over hb⟩
    · have n2 : ((k : Int) == 2) = false := by simpa using k2
      by_cases k3 : k = 3
      · subst k3
        rw [keyB_3]
        cases hn : nodeB a
        · go_enter Tryz.func74, Tryz.ntmps74
          go_wp2_with (go_at_call 126; refine (key1_any _ _).mono ?_; rintro e w' ⟨rfl, rfl⟩)
          go_ret
          exact ⟨rfl, bA⟩
        · cases hw : wordB s
          · go_enter Tryz.func74, Tryz.ntmps74
            go_wp2_with (first | (go_at_call 126; refine (key1_any _ _).mono ?_; rintro e w' ⟨rfl, rfl⟩) | (go_at_call 127; refine (fword_any _ _ hs0).mono ?_; rintro e w' ⟨rfl, hb⟩))
            go_ret
            exact ⟨rfl, below_over hb⟩
          · have c3 : (w.alloc (.cells #[.int .i64 3, .int .i64 a, .string s, .int .i64 b] 44)).cell? ⟨w.heap.size, 3, none⟩ = some (.int .i64 b) := by simp
            by_cases hb : b = 0
            · subst hb
              go_enter Tryz.func74, Tryz.ntmps74
              go_wp2_with (first | (go_at_call 126; refine (key1_any _ _).mono ?_; rintro e w' ⟨rfl, rfl⟩) | (go_at_call 127; refine (fword_any _ _ hs0).mono ?_; rintro e w' ⟨rfl, hb⟩; have d3 := below_cell hb (by simp) c3))
              go_ret
              exact ⟨rfl, below_over hb⟩
            · have hb1 : ((b : Int) == 0) = false := by simpa using hb
              have hb2 : decide (b = 0) = false := decide_eq_false hb
              go_enter Tryz.func74, Tryz.ntmps74
              go_wp2_with (first | (go_at_call 126; refine (key1_any _ _).mono ?_; rintro e w' ⟨rfl, rfl⟩) | (go_at_call 127; refine (fword_any _ _ hs0).mono ?_; rintro e w' ⟨rfl, hb⟩; have d3 := below_cell hb (by simp) c3))
              go_ret
              exact ⟨by rw [hb2]; rfl, below_over hb⟩
      · have n3 : ((k : Int) == 3) = false := by simpa using k3
        rw [keyB_else k a b s k1 k2 k3]
        go_enter Tryz.func74, Tryz.ntmps74
        go_wp2
        go_ret
        exact ⟨rfl, bA⟩

end Go.Proofs.YtflhpmgjehjjkaaGreatDoor

namespace Go.Proofs.YtflhpmgjehjjkaaGreatDoor
open Go.RowKit

end Go.Proofs.YtflhpmgjehjjkaaGreatDoor

namespace Go.Proofs.YtflhpmgjehjjkaaGreatDoor
open Go.RowKit

theorem opB_mk (k a b f t : Int) (s v : ByteArray) : opB ⟨⟨k, a, s, b⟩, f, t, v⟩ = (keyB ⟨k, a, s, b⟩ && (rightB f t && (decide (v.size = 0) || wordB v))) := rfl

set_option maxHeartbeats 1000000 in
theorem fop_any (k a b f t : Int) (s v : ByteArray) (w : World) (hs : s.size ≤ maxLen) (hv : v.size ≤ maxLen) :
    Calls Tryz.prog 91 #[.agg #[.int .i64 k, .int .i64 a, .string s, .int .i64 b, .int .i64 f, .int .i64 t, .string v]] w fun e w' => e = .returned (.bool (opB ⟨⟨k, a, s, b⟩, f, t, v⟩)) ∧ Below w.heap.size w w' := by
  obtain ⟨W, hW⟩ : ∃ W, W = w.alloc (.cells #[.int .i64 k, .int .i64 a, .string s, .int .i64 b, .int .i64 f, .int .i64 t, .string v] 70) := ⟨_, rfl⟩
  have bA : Below w.heap.size w W := by rw [hW]; exact (Below.refl _ w).alloc (Nat.le_refl _) _
  have hwW : w.heap.size < W.heap.size := by rw [hW]; simp
  have c0 : W.cell? ⟨w.heap.size, 0, none⟩ = some (.int .i64 k) := by rw [hW]; simp
  have c1 : W.cell? ⟨w.heap.size, 1, none⟩ = some (.int .i64 a) := by rw [hW]; simp
  have c2 : W.cell? ⟨w.heap.size, 2, none⟩ = some (.string s) := by rw [hW]; simp
  have c3 : W.cell? ⟨w.heap.size, 3, none⟩ = some (.int .i64 b) := by rw [hW]; simp
  have c4 : W.cell? ⟨w.heap.size, 4, none⟩ = some (.int .i64 f) := by rw [hW]; simp
  have c5 : W.cell? ⟨w.heap.size, 5, none⟩ = some (.int .i64 t) := by rw [hW]; simp
  have c6 : W.cell? ⟨w.heap.size, 6, none⟩ = some (.string v) := by rw [hW]; simp
  have HW := Lib.hid hW
  clear hW
  have hK := fun W' => fkey_any k a b s W' hs
  have hR := fun W' => right_any f t W'
  have hF := fun W' => fword_any v W' hv
  rw [opB_mk]
  cases e1 : keyB ⟨k, a, s, b⟩
  · simp only [e1] at hK
    go_enter Tryz.func91, Tryz.ntmps91
    go_wp2_with fail
    rw [← HW.out]
    go_wp2_with (go_at_call 74; refine (hK _).mono ?_; rintro e w1 ⟨rfl, h1⟩)
    go_ret
    exact ⟨rfl, below_step bA h1⟩
  · simp only [e1] at hK
    cases e2 : rightB f t
    · simp only [e2] at hR
      go_enter Tryz.func91, Tryz.ntmps91
      go_wp2_with fail
      rw [← HW.out]
      go_wp2_with (first | (go_at_call 74; refine (hK _).mono ?_; rintro e w1 ⟨rfl, h1⟩; have d4 := below_cell h1 hwW c4; have d5 := below_cell h1 hwW c5) | (go_at_call 135; refine (hR _).mono ?_; rintro e w2 ⟨rfl, h2⟩))
      go_ret
      exact ⟨rfl, below_step (below_step bA h1) h2⟩
    · simp only [e2] at hR
      by_cases h0 : v.size = 0
      · have e3 := empty_true h0
        rw [h0]
        go_enter Tryz.func91, Tryz.ntmps91
        go_wp2_with fail
        rw [← HW.out]
        go_wp2_with (first | (go_at_call 74; refine (hK _).mono ?_; rintro e w1 ⟨rfl, h1⟩; have d4 := below_cell h1 hwW c4; have d5 := below_cell h1 hwW c5; have d6 := below_cell h1 hwW c6; have hz := Nat.lt_of_lt_of_le hwW h1.size) | (go_at_call 135; refine (hR _).mono ?_; rintro e w2 ⟨rfl, h2⟩; have g6 := below_cell h2 hz d6))
        go_ret
        exact ⟨rfl, below_step (below_step bA h1) h2⟩
      · have e3 := empty_false h0
        have h0' : decide (v.size = 0) = false := decide_eq_false h0
        rw [h0']
        clear h0'
        go_enter Tryz.func91, Tryz.ntmps91
        go_wp2_with fail
        rw [← HW.out]
        go_wp2_with (first | (go_at_call 74; refine (hK _).mono ?_; rintro e w1 ⟨rfl, h1⟩; have d4 := below_cell h1 hwW c4; have d5 := below_cell h1 hwW c5; have d6 := below_cell h1 hwW c6; have hz := Nat.lt_of_lt_of_le hwW h1.size) | (go_at_call 135; refine (hR _).mono ?_; rintro e w2 ⟨rfl, h2⟩; have g6 := below_cell h2 hz d6) | (go_at_call 127; refine (hF _).mono ?_; rintro e w3 ⟨rfl, h3⟩))
        go_ret
        exact ⟨rfl, below_step (below_step (below_step bA h1) h2) h3⟩
theorem fwrite1_any (k a b f t : Int) (s v : ByteArray) (w : World) (hs : s.size ≤ maxLen) (hv : v.size ≤ maxLen) :
    Calls Tryz.prog 90 #[.agg #[.int .i64 k, .int .i64 a, .string s, .int .i64 b, .int .i64 f, .int .i64 t, .string v]] w fun e w' => e = .returned (.bool (!opB ⟨⟨k, a, s, b⟩, f, t, v⟩)) ∧ Below w.heap.size w w' := by
  go_enter Tryz.func90, Tryz.ntmps90
  go_wp2_with (go_at_call 91; refine (fop_any k a b f t s v _ hs hv).mono ?_; rintro e w1 ⟨rfl, h1⟩)
  go_ret
  exact ⟨rfl, below_over h1⟩
end Go.Proofs.YtflhpmgjehjjkaaGreatDoor

namespace Go.Proofs.YtflhpmgjehjjkaaGreatDoor
open Go.RowKit

/-- The library's table of powers of ten. -/
def PowTab (w : World) : Prop := Lib.TabIs Tryz.prog w "internal/strconv.uint64pow10" .u64 Lib.pow10Tab
theorem PowTab.below {w w' : World} (h : PowTab w) (hb : Below w.heap.size w w') : PowTab w' := Lib.tabBelow_of_tabIs h w' hb
theorem PowTab.drew {w : World} (h : PowTab w) : PowTab w.drew := h.below ((Below.refl _ _).drew)

def i64B (n : Int) : Prop := -9223372036854775808 ≤ n ∧ n ≤ 9223372036854775807
theorem itoa_any (n : Int) (hn : i64B n) (w : World) (ht : PowTab w) : Calls Tryz.prog 80 #[.int .i64 n] w fun e w' => e = .returned (.string ⟨(Lib.itoa n).toArray⟩) ∧ Below w.heap.size w w' :=
  (Tryz.strconv_Itoa n hn.1 hn.2 w ht).mono fun _ _ ⟨h1, k, os, h2⟩ => ⟨h1, by rw [h2]; exact Lib.below_grow _ w (Nat.le_refl _) k os⟩

/-- A slice of strings. -/
def textsAt (w : World) (ao : Option Addr) (l : List ByteArray) : Prop := ∀ i x, l[i]? = some x → ∃ b o, ao = some ⟨b, o, none⟩ ∧ w.cell? ⟨b, o + i, none⟩ = some (.string x)
theorem textsAt.below {w w' : World} {ao : Option Addr} {l : List ByteArray} (h : textsAt w ao l) (hb : Below w.heap.size w w') : textsAt w' ao l :=
  fun i x hi => let ⟨b, o, h1, h2⟩ := h i x hi
    ⟨b, o, h1, (hb.cell (p := ⟨b, _, none⟩) (World.block_lt_of_cell? w _ h2)).trans h2⟩
theorem infoStr : (Tryz.prog.info? 9).map (fun i => (i.zero, i.size, i.bytes)) = some (some (.string ⟨#[]⟩), 1, 16) := by kernel_rfl
theorem ownsRow_texts {w : World} {base n : Nat} {v : Value} {l : List ByteArray} {e : TypeId} (h : w.ownsRow base e 1 v n (l.map Value.string)) :
    ∃ ao cap, v = .slice ao l.length cap ∧ textsAt w ao l ∧ l.length ≤ cap ∧ (ao = none → l = []) := by
  have hn : n = l.length := by have := h.1; simp at this; omega
  subst hn
  have h0 := h
  rcases h.2 with ⟨rfl, hn⟩ | ⟨g, cap, cur, rfl, hbg, hh, hnc, hcm, hcs, htk⟩
  · have hl : l = [] := List.eq_nil_of_length_eq_zero hn
    subst hl
    exact ⟨none, 0, rfl, fun i x hx => by simp at hx, Nat.le_refl _, fun _ => rfl⟩
  · refine ⟨some ⟨g, 0, none⟩, cap, rfl, fun i x hx => ⟨g, 0, rfl, ?_⟩, hnc, fun h => by cases h⟩
    have hi := (List.getElem?_eq_some_iff.1 hx).1
    have := h0.cellAt i (by omega)
    rw [Nat.zero_add, this]
    simp [hx]
/-- strings.Join, of a slice of strings. -/
theorem join_any (ao : Option Addr) (c : Nat) (xs : List ByteArray) (sep : ByteArray) (w : World) (hx : textsAt w ao xs) (hc : xs.length ≤ c) (hn : xs.length ≤ 140737488355328) (hlen : (Lib.join (xs.map (·.data.toList)) sep.data.toList).length ≤ 140737488355328) :
    Calls Tryz.prog 93 #[.slice ao xs.length c, .string sep] w fun e w' => e = .returned (.string ⟨(Lib.join (xs.map (·.data.toList)) sep.data.toList).toArray⟩) ∧ Below w.heap.size w w' := by
  cases xs with
  | nil => exact (Tryz.strings_Join_none ao c sep w).mono fun _ _ ⟨h1, h2⟩ => ⟨h1, by rw [h2]; exact Below.refl _ _⟩
  | cons x r =>
    obtain ⟨b, o, rfl, h0⟩ := hx 0 x rfl
    exact Tryz.strings_Join b o c (x :: r) sep w (fun j y hj => by obtain ⟨b', o', h1, h2⟩ := hx j y hj; cases h1; exact h2) (World.block_lt_of_cell? w _ h0) hn hc hlen

/-- One string more. -/
theorem appText {W : World} {ops : Array Oper} {rest : List Oper} {o : Oper} {a : Act} {Q : Exit → Act → World → Prop} (hgd : o.guard = none) (s x : Operand)
    (ho : o.op = .call { callee := .builtin .append, args := #[s, x], argTypes := #[114, 114] }) (base : Nat) (v : Value) (l : List ByteArray) (hs : a.eval s = v) (hown : W.ownsRow base 9 1 v l.length (l.map Value.string))
    (b : Nat) (t : ByteArray) (hx : a.eval x = .slice (some ⟨b, 0, none⟩) 1 1) (hc1 : W.cell? ⟨b, 0, none⟩ = some (.string t))
    (hbytes : (l.length + 1) * 16 ≤ 140737488355328) (hbase : base ≤ W.heap.size) (w0 : World) (hB : Below base w0 W)
    (h : ∀ v' w', w'.ownsRow base 9 1 v' (l ++ [t]).length ((l ++ [t]).map Value.string) → Below base w0 w' → W.heap.size ≤ w'.heap.size → W.grownBy w' v.ownBlock → wpList Tryz.prog ops Q rest (a.put o.dst v') w') : wpList Tryz.prog ops Q (o :: rest) a W := by
  refine app1 hgd s x _ ho base 9 Tryz.underlying114 infoStr rfl (by decide) (by decide) v l.length (l.map Value.string) hs hown b [.string t] hx rfl (fun u hu => ?_) (fun j u hu => ?_) hbytes hbase w0 hB fun v' w' h2 h3 h4 h5 h6 => h v' w' ?_ h3 h4 h6
  · simp at hu; subst hu; rfl
  · match j, hu with
    | 0, hu => simp at hu; subst hu; exact hc1
  · rw [List.map_append, List.length_append]; exact h2

/-! ### Words -/
theorem join_len (sep : List UInt8) (m : Nat) : ∀ l : List (List UInt8), (∀ p ∈ l, p.length ≤ m) → (Lib.join l sep).length ≤ l.length * (m + sep.length)
  | [], _ => by simp [Lib.join, List.intercalate]
  | [p], h => by
    have := h p (by simp)
    simp [Lib.join, List.intercalate, List.intersperse]; omega
  | p :: q :: r, h => by
    have h1 := h p (by simp)
    have h2 := join_len sep m (q :: r) (fun x hx => h x (List.mem_cons_of_mem _ hx))
    have e : Lib.join (p :: q :: r) sep = p ++ (sep ++ Lib.join (q :: r) sep) := by simp [Lib.join, List.intercalate, List.intersperse]
    rw [e]
    simp only [List.length_append, List.length_cons, Nat.add_mul, Nat.one_mul] at h2 ⊢
    omega

end Go.Proofs.YtflhpmgjehjjkaaGreatDoor

namespace Go.Proofs.YtflhpmgjehjjkaaGreatDoor
open Go.RowKit

theorem dashL_len (s : ByteArray) : (dashL s).length ≤ s.size + 1 := by
  unfold dashL; split
  · simp
  · rw [size_toList]; omega

end Go.Proofs.YtflhpmgjehjjkaaGreatDoor

namespace Go.Proofs.YtflhpmgjehjjkaaGreatDoor
open Go.RowKit

def opCells (o : OpP) : List Value := [.int .i64 o.key.kind, .int .i64 o.key.a, .string o.key.word, .int .i64 o.key.b, .int .i64 o.fr, .int .i64 o.to, .string o.value]
/-- The slice that begins at an address holds these changes. -/
def opsAt (w : World) (ao : Option Addr) (l : List OpP) : Prop := ∀ i o, l[i]? = some o → ∃ b f, ao = some ⟨b, f, none⟩ ∧ ∀ j u, (opCells o)[j]? = some u → w.cell? ⟨b, f + i * 7 + j, none⟩ = some u
theorem opsAt.below {w w' : World} {ao : Option Addr} {l : List OpP} (h : opsAt w ao l) (hb : Below w.heap.size w w') : opsAt w' ao l :=
  fun i o hi => let ⟨b, f, h1, h2⟩ := h i o hi
    ⟨b, f, h1, fun j u hj => (hb.cell (p := ⟨b, _, none⟩) (World.block_lt_of_cell? w _ (h2 j u hj))).trans (h2 j u hj)⟩
theorem opsAt_get {w : World} {ao : Option Addr} {l : List OpP} (h : opsAt w ao l) {k : Nat} (hk : k < l.length) :
    ∃ b f n a s m x y u, Hid (l[k]? = some ⟨⟨n, a, s, m⟩, x, y, u⟩) ∧ ao = some ⟨b, f, none⟩ ∧ b < w.heap.size ∧ w.cell? ⟨b, f + k * 7, none⟩ = some (.int .i64 n) ∧ w.cell? ⟨b, f + k * 7 + 1, none⟩ = some (.int .i64 a) ∧ w.cell? ⟨b, f + k * 7 + 2, none⟩ = some (.string s) ∧
      w.cell? ⟨b, f + k * 7 + 3, none⟩ = some (.int .i64 m) ∧ w.cell? ⟨b, f + k * 7 + 4, none⟩ = some (.int .i64 x) ∧ w.cell? ⟨b, f + k * 7 + 5, none⟩ = some (.int .i64 y) ∧ w.cell? ⟨b, f + k * 7 + 6, none⟩ = some (.string u) := by
  cases hg : l[k] with
  | mk key x y u =>
    cases key with
    | mk n a s m =>
      have hs : l[k]? = some ⟨⟨n, a, s, m⟩, x, y, u⟩ := by rw [List.getElem?_eq_getElem hk, hg]
      obtain ⟨b, f, h1, h2⟩ := h k _ hs
      exact ⟨b, f, n, a, s, m, x, y, u, Lib.hid hs, h1, World.block_lt_of_cell? w _ (h2 0 _ rfl), h2 0 _ rfl, h2 1 _ rfl, h2 2 _ rfl, h2 3 _ rfl, h2 4 _ rfl, h2 5 _ rfl, h2 6 _ rfl⟩

/-! ### The text so far -/
/-- What stands ahead of the next change. -/
def ahead (T : List UInt8) (k : Nat) : List UInt8 := if 0 < k then T ++ [43] else T
theorem word_size {s : ByteArray} (h : s.size = 0 ∨ wordB s = true) : s.size ≤ 12 := by
  rcases h with h | h
  · omega
  · unfold wordB at h; simp only [Bool.and_eq_true, decide_eq_true_eq] at h; exact h.1.2
theorem opT_len {o : OpP} (hb : opB o = true) : (opT o).length ≤ 500 := by
  have hw := opB_wf hb
  have h1 := word_size (key_word (op_key hb))
  have h2 := word_size (op_value hb)
  have := join_len [32] 61 (opWs o) (fun p hp => by
    obtain ⟨w1, w2, w3, w4, w5⟩ := hw
    have d1 := dashL_len o.key.word
    have d2 := dashL_len o.value
    have l1 := Lib.itoa_length_le _ w1.1 w1.2
    have l2 := Lib.itoa_length_le _ w2.1 w2.2
    have l3 := Lib.itoa_length_le _ w3.1 w3.2
    have l4 := Lib.itoa_length_le _ w4.1 w4.2
    have l5 := Lib.itoa_length_le _ w5.1 w5.2
    simp only [opWs, List.mem_cons, List.not_mem_nil, or_false] at hp
    rcases hp with rfl | rfl | rfl | rfl | rfl | rfl | rfl <;> omega)
  simp only [opWs, List.length_cons, List.length_nil] at this
  unfold opT opWs
  omega
theorem lenB_le {l : List OpP} (h : lenB l = true) : l.length ≤ 8 := by unfold lenB at h; simp only [decide_eq_true_eq] at h; exact h.2
theorem writeR_good {l : List OpP} (hl : lenB l = true) (hb : l.all opB = true) : writeR l = (writeT l, 0, -1) := by
  unfold writeR; rw [hl, hb]; rfl
theorem writeR_len {l : List OpP} (hl : lenB l = false) : writeR l = ([], 4, -1) := by
  unfold writeR; rw [hl]; rfl


end Go.Proofs.YtflhpmgjehjjkaaGreatDoor
