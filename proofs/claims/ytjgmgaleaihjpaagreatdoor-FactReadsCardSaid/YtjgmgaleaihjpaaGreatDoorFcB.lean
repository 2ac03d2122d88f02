/- Keys, changes and their order: what the program and the document's answer compute. -/
import Derived.Test.YtjgmgaleaihjpaaGreatDoorFcA
import Derived.Test.YtjgmgaleaihjpaaGreatDoorRow
namespace Go.Proofs.YtjgmgaleaihjpaaGreatDoor
open Go.RowKit

theorem keyB_1 (a b : Int) (s : ByteArray) : keyB ⟨1, a, s, b⟩ = (nodeB a && (decide (s.size = 0) && decide (b = 0))) := rfl
theorem keyB_2 (a b : Int) (s : ByteArray) : keyB ⟨2, a, s, b⟩ = (nodeB a && (nodeB b && wordB s)) := rfl
theorem keyB_3 (a b : Int) (s : ByteArray) : keyB ⟨3, a, s, b⟩ = (nodeB a && (wordB s && decide (b = 0))) := rfl
theorem keyB_else (k a b : Int) (s : ByteArray) (h1 : k ≠ 1) (h2 : k ≠ 2) (h3 : k ≠ 3) : keyB ⟨k, a, s, b⟩ = false := by
  unfold keyB; simp [h1, h2, h3]
theorem below_alloc2 {w w' : World} (o : Obj) (h : Below (w.alloc o).heap.size (w.alloc o) w') : Below w.heap.size w w' := below_over h

set_option maxHeartbeats 2000000 in
theorem fkey_any (k a b : Int) (s : ByteArray) (w : World) (hs : s.size ≤ maxLen) :
    Calls Tryz.prog 50 #[.agg #[.int .i64 k, .int .i64 a, .string s, .int .i64 b]] w fun e w' => e = .returned (.bool (keyB ⟨k, a, s, b⟩)) ∧ Below w.heap.size w w' := by
  have hs0 := hs
  unfold maxLen at hs
  have bA : Below w.heap.size w (w.alloc (.cells #[.int .i64 k, .int .i64 a, .string s, .int .i64 b] 40)) := (Below.refl _ w).alloc (Nat.le_refl _) _
  by_cases k1 : k = 1
  · subst k1
    rw [keyB_1]
    cases hn : nodeB a
    · go_enter Tryz.func50, Tryz.ntmps50
      go_wp2_with (go_at_call 69; refine (key1_any _ _).mono ?_; rintro e w' ⟨rfl, rfl⟩)
      go_ret
      exact ⟨rfl, bA⟩
    · by_cases h0 : s.size = 0
      · have e1 := empty_true h0
        rw [h0]
        by_cases hb : b = 0
        · subst hb
          go_enter Tryz.func50, Tryz.ntmps50
          go_wp2_with (go_at_call 69; refine (key1_any _ _).mono ?_; rintro e w' ⟨rfl, rfl⟩)
          go_ret
          exact ⟨rfl, bA⟩
        · have hb1 : ((b : Int) == 0) = false := by simpa using hb
          have hb2 : decide (b = 0) = false := decide_eq_false hb
          go_enter Tryz.func50, Tryz.ntmps50
          go_wp2_with (go_at_call 69; refine (key1_any _ _).mono ?_; rintro e w' ⟨rfl, rfl⟩)
          go_ret
          exact ⟨by rw [hb2]; rfl, bA⟩
      · have e1 := empty_false h0
        have h2 : decide (s.size = 0) = false := decide_eq_false h0
        rw [h2]
        clear h2
        go_enter Tryz.func50, Tryz.ntmps50
        go_wp2_with (go_at_call 69; refine (key1_any _ _).mono ?_; rintro e w' ⟨rfl, rfl⟩)
        go_ret
        exact ⟨rfl, bA⟩
  · have n1 : ((k : Int) == 1) = false := by simpa using k1
    by_cases k2 : k = 2
    · subst k2
      rw [keyB_2]
      cases hn : nodeB a
      · go_enter Tryz.func50, Tryz.ntmps50
        go_wp2_with (go_at_call 69; refine (key1_any _ _).mono ?_; rintro e w' ⟨rfl, rfl⟩)
        go_ret
        exact ⟨rfl, bA⟩
      · cases hm : nodeB b
        · go_enter Tryz.func50, Tryz.ntmps50
          go_wp2_with (go_at_call 69; refine (key1_any _ _).mono ?_; rintro e w' ⟨rfl, rfl⟩)
          go_ret
          exact ⟨rfl, bA⟩
        · go_enter Tryz.func50, Tryz.ntmps50
          go_wp2_with (first | (go_at_call 69; refine (key1_any _ _).mono ?_; rintro e w' ⟨rfl, rfl⟩) | (go_at_call 52; refine (fword_any _ _ hs0).mono ?_; rintro e w' ⟨rfl, hb⟩))
          go_ret
          exact ⟨rfl, below_over hb⟩
    · have n2 : ((k : Int) == 2) = false := by simpa using k2
      by_cases k3 : k = 3
      · subst k3
        rw [keyB_3]
        cases hn : nodeB a
        · go_enter Tryz.func50, Tryz.ntmps50
          go_wp2_with (go_at_call 69; refine (key1_any _ _).mono ?_; rintro e w' ⟨rfl, rfl⟩)
          go_ret
          exact ⟨rfl, bA⟩
        · cases hw : wordB s
          · go_enter Tryz.func50, Tryz.ntmps50
            go_wp2_with (first | (go_at_call 69; refine (key1_any _ _).mono ?_; rintro e w' ⟨rfl, rfl⟩) | (go_at_call 52; refine (fword_any _ _ hs0).mono ?_; rintro e w' ⟨rfl, hb⟩))
            go_ret
            exact ⟨rfl, below_over hb⟩
          · have c3 : (w.alloc (.cells #[.int .i64 3, .int .i64 a, .string s, .int .i64 b] 40)).cell? ⟨w.heap.size, 3, none⟩ = some (.int .i64 b) := by simp
            by_cases hb : b = 0
            · subst hb
              go_enter Tryz.func50, Tryz.ntmps50
              go_wp2_with (first | (go_at_call 69; refine (key1_any _ _).mono ?_; rintro e w' ⟨rfl, rfl⟩) | (go_at_call 52; refine (fword_any _ _ hs0).mono ?_; rintro e w' ⟨rfl, hb⟩; have d3 := below_cell hb (by simp) c3))
              go_ret
              exact ⟨rfl, below_over hb⟩
            · have hb1 : ((b : Int) == 0) = false := by simpa using hb
              have hb2 : decide (b = 0) = false := decide_eq_false hb
              go_enter Tryz.func50, Tryz.ntmps50
              go_wp2_with (first | (go_at_call 69; refine (key1_any _ _).mono ?_; rintro e w' ⟨rfl, rfl⟩) | (go_at_call 52; refine (fword_any _ _ hs0).mono ?_; rintro e w' ⟨rfl, hb⟩; have d3 := below_cell hb (by simp) c3))
              go_ret
              exact ⟨by rw [hb2]; rfl, below_over hb⟩
      · have n3 : ((k : Int) == 3) = false := by simpa using k3
        rw [keyB_else k a b s k1 k2 k3]
        go_enter Tryz.func50, Tryz.ntmps50
        go_wp2
        go_ret
        exact ⟨rfl, bA⟩

set_option maxHeartbeats 2000000 in
theorem rkey_any (k a b : Int) (s : ByteArray) (w : World) (hs : s.size ≤ maxLen) :
    Calls Tryz.prog 41 #[.agg #[.int .i64 k, .int .i64 a, .string s, .int .i64 b]] w fun e w' => e = .returned (.bool (keyB ⟨k, a, s, b⟩)) ∧ Below w.heap.size w w' := by
  have hs0 := hs
  unfold maxLen at hs
  have bA : Below w.heap.size w (w.alloc (.cells #[.int .i64 k, .int .i64 a, .string s, .int .i64 b] 40)) := (Below.refl _ w).alloc (Nat.le_refl _) _
  have hA : ∀ W, Calls Tryz.prog 21 #[.int .i64 a, .int .i64 0, .int .i64 1048576] W fun e w' => e = .returned (.bool (nodeB a)) ∧ W = w' := fun W => in_any _ _ _ _
  have hB : ∀ W, Calls Tryz.prog 21 #[.int .i64 b, .int .i64 0, .int .i64 1048576] W fun e w' => e = .returned (.bool (nodeB b)) ∧ W = w' := fun W => in_any _ _ _ _
  have hW : ∀ W, Calls Tryz.prog 43 #[.string s] W fun e w' => e = .returned (.bool (wordB s)) ∧ w' = W := fun W => rword_any _ _ hs0
  cases hn : nodeB a
  · have e0 : keyB ⟨k, a, s, b⟩ = false := by
      unfold keyB
      simp only [hn, Bool.false_and]
      split
      · rfl
      · split
        · rfl
        · split <;> rfl
    rw [e0]
    clear e0
    go_enter Tryz.func41, Tryz.ntmps41
    go_wp2_with (go_at_call 21; refine (hA _).mono ?_; rintro e w' ⟨rfl, rfl⟩)
    go_ret
    exact ⟨rfl, bA⟩
  · by_cases k1 : k = 1
    · subst k1
      rw [keyB_1, hn]
      by_cases h0 : s.size = 0
      · have e1 := empty_true h0
        rw [h0]
        by_cases hb : b = 0
        · subst hb
          go_enter Tryz.func41, Tryz.ntmps41
          go_wp2_with (go_at_call 21; refine (hA _).mono ?_; rintro e w' ⟨rfl, rfl⟩)
          go_ret
          exact ⟨rfl, bA⟩
        · have hb1 : ((b : Int) == 0) = false := by simpa using hb
          have hb2 : decide (b = 0) = false := decide_eq_false hb
          go_enter Tryz.func41, Tryz.ntmps41
          go_wp2_with (go_at_call 21; refine (hA _).mono ?_; rintro e w' ⟨rfl, rfl⟩)
          go_ret
          exact ⟨by rw [hb2]; rfl, bA⟩
      · have e1 := empty_false h0
        have h2 : decide (s.size = 0) = false := decide_eq_false h0
        rw [h2]
        clear h2
        go_enter Tryz.func41, Tryz.ntmps41
        go_wp2_with (go_at_call 21; refine (hA _).mono ?_; rintro e w' ⟨rfl, rfl⟩)
        go_ret
        exact ⟨rfl, bA⟩
    · have n1 : ((k : Int) == 1) = false := by simpa using k1
      by_cases k2 : k = 2
      · subst k2
        rw [keyB_2, hn]
        cases hw : wordB s
        · go_enter Tryz.func41, Tryz.ntmps41
          go_wp2_with (first | (go_at_call 21; refine (hA _).mono ?_; rintro e w' ⟨rfl, rfl⟩) | (go_at_call 43; refine (hW _).mono ?_; rintro e w' ⟨rfl, rfl⟩))
          go_ret
          exact ⟨by rw [Bool.and_false]; rfl, bA⟩
        · go_enter Tryz.func41, Tryz.ntmps41
          go_wp2_with (first | (go_at_call 21; (with_reducible refine (hA _).mono ?_); rintro e w' ⟨rfl, rfl⟩) | (go_at_call 21; (with_reducible refine (hB _).mono ?_); rintro e w' ⟨rfl, rfl⟩) | (go_at_call 43; refine (hW _).mono ?_; rintro e w' ⟨rfl, rfl⟩))
          go_ret
          exact ⟨by rw [Bool.and_true]; rfl, bA⟩
      · have n2 : ((k : Int) == 2) = false := by simpa using k2
        by_cases k3 : k = 3
        · subst k3
          rw [keyB_3, hn]
          cases hw : wordB s
          · go_enter Tryz.func41, Tryz.ntmps41
            go_wp2_with (first | (go_at_call 21; refine (hA _).mono ?_; rintro e w' ⟨rfl, rfl⟩) | (go_at_call 43; refine (hW _).mono ?_; rintro e w' ⟨rfl, rfl⟩))
            go_ret
            exact ⟨rfl, bA⟩
          · by_cases hb : b = 0
            · subst hb
              go_enter Tryz.func41, Tryz.ntmps41
              go_wp2_with (first | (go_at_call 21; refine (hA _).mono ?_; rintro e w' ⟨rfl, rfl⟩) | (go_at_call 43; refine (hW _).mono ?_; rintro e w' ⟨rfl, rfl⟩))
              go_ret
              exact ⟨rfl, bA⟩
            · have hb1 : ((b : Int) == 0) = false := by simpa using hb
              have hb2 : decide (b = 0) = false := decide_eq_false hb
              go_enter Tryz.func41, Tryz.ntmps41
              go_wp2_with (first | (go_at_call 21; refine (hA _).mono ?_; rintro e w' ⟨rfl, rfl⟩) | (go_at_call 43; refine (hW _).mono ?_; rintro e w' ⟨rfl, rfl⟩))
              go_ret
              exact ⟨by rw [hb2]; rfl, bA⟩
        · have n3 : ((k : Int) == 3) = false := by simpa using k3
          rw [keyB_else k a b s k1 k2 k3]
          go_enter Tryz.func41, Tryz.ntmps41
          go_wp2_with (go_at_call 21; refine (hA _).mono ?_; rintro e w' ⟨rfl, rfl⟩)
          go_ret
          exact ⟨rfl, bA⟩
end Go.Proofs.YtjgmgaleaihjpaaGreatDoor
