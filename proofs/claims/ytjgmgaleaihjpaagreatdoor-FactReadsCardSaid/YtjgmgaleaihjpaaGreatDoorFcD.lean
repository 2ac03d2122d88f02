/- Whether a change may be: what the program and the document's answer compute. -/
import Derived.Test.YtjgmgaleaihjpaaGreatDoorFcC
namespace Go.Proofs.YtjgmgaleaihjpaaGreatDoor
open Go.RowKit

theorem spanB_right (f t : Int) : spanB f t = rightB f t := rfl
theorem opB_mk (k a b f t : Int) (s v : ByteArray) : opB ⟨⟨k, a, s, b⟩, f, t, v⟩ = (keyB ⟨k, a, s, b⟩ && (rightB f t && (decide (v.size = 0) || wordB v))) := rfl

set_option maxHeartbeats 1000000 in
theorem fop_any (k a b f t : Int) (s v : ByteArray) (w : World) (hs : s.size ≤ maxLen) (hv : v.size ≤ maxLen) :
    Calls Tryz.prog 31 #[.agg #[.int .i64 k, .int .i64 a, .string s, .int .i64 b, .int .i64 f, .int .i64 t, .string v]] w fun e w' => e = .returned (.bool (opB ⟨⟨k, a, s, b⟩, f, t, v⟩)) ∧ Below w.heap.size w w' := by
  obtain ⟨W, hW⟩ : ∃ W, W = w.alloc (.cells #[.int .i64 k, .int .i64 a, .string s, .int .i64 b, .int .i64 f, .int .i64 t, .string v] 44) := ⟨_, rfl⟩
  have bA : Below w.heap.size w W := by rw [hW]; exact (Below.refl _ w).alloc (Nat.le_refl _) _
  have hwW : w.heap.size < W.heap.size := by rw [hW]; simp
  have c0 : W.cell? ⟨w.heap.size, 0, none⟩ = some (.int .i64 k) := by rw [hW]; simp
  have c1 : W.cell? ⟨w.heap.size, 1, none⟩ = some (.int .i64 a) := by rw [hW]; simp
  have c2 : W.cell? ⟨w.heap.size, 2, none⟩ = some (.string s) := by rw [hW]; simp
  have c3 : W.cell? ⟨w.heap.size, 3, none⟩ = some (.int .i64 b) := by rw [hW]; simp
  have c4 : W.cell? ⟨w.heap.size, 4, none⟩ = some (.int .i64 f) := by rw [hW]; simp
  have c5 : W.cell? ⟨w.heap.size, 5, none⟩ = some (.int .i64 t) := by rw [hW]; simp
  have c6 : W.cell? ⟨w.heap.size, 6, none⟩ = some (.string v) := by rw [hW]; simp
  have HW := Lib.hid hW
  clear hW
  have hK := fun W' => fkey_any k a b s W' hs
  have hR := fun W' => right_any f t W'
  have hF := fun W' => fword_any v W' hv
  rw [opB_mk]
  cases e1 : keyB ⟨k, a, s, b⟩
  · simp only [e1] at hK
    go_enter Tryz.func31, Tryz.ntmps31
    go_wp2_with fail
    rw [← HW.out]
    go_wp2_with (go_at_call 50; refine (hK _).mono ?_; rintro e w1 ⟨rfl, h1⟩)
    go_ret
    exact ⟨rfl, below_step bA h1⟩
  · simp only [e1] at hK
    cases e2 : rightB f t
    · simp only [e2] at hR
      go_enter Tryz.func31, Tryz.ntmps31
      go_wp2_with fail
      rw [← HW.out]
      go_wp2_with (first | (go_at_call 50; refine (hK _).mono ?_; rintro e w1 ⟨rfl, h1⟩; have d4 := below_cell h1 hwW c4; have d5 := below_cell h1 hwW c5) | (go_at_call 51; refine (hR _).mono ?_; rintro e w2 ⟨rfl, h2⟩))
      go_ret
      exact ⟨rfl, below_step (below_step bA h1) h2⟩
    · simp only [e2] at hR
      by_cases h0 : v.size = 0
      · have e3 := empty_true h0
        rw [h0]
        go_enter Tryz.func31, Tryz.ntmps31
        go_wp2_with fail
        rw [← HW.out]
        go_wp2_with (first | (go_at_call 50; refine (hK _).mono ?_; rintro e w1 ⟨rfl, h1⟩; have d4 := below_cell h1 hwW c4; have d5 := below_cell h1 hwW c5; have d6 := below_cell h1 hwW c6; have hz := Nat.lt_of_lt_of_le hwW h1.size) | (go_at_call 51; refine (hR _).mono ?_; rintro e w2 ⟨rfl, h2⟩; have g6 := below_cell h2 hz d6))
        go_ret
        exact ⟨rfl, below_step (below_step bA h1) h2⟩
      · have e3 := empty_false h0
        have h0' : decide (v.size = 0) = false := decide_eq_false h0
        rw [h0']
        clear h0'
        go_enter Tryz.func31, Tryz.ntmps31
        go_wp2_with fail
        rw [← HW.out]
        go_wp2_with (first | (go_at_call 50; refine (hK _).mono ?_; rintro e w1 ⟨rfl, h1⟩; have d4 := below_cell h1 hwW c4; have d5 := below_cell h1 hwW c5; have d6 := below_cell h1 hwW c6; have hz := Nat.lt_of_lt_of_le hwW h1.size) | (go_at_call 51; refine (hR _).mono ?_; rintro e w2 ⟨rfl, h2⟩; have g6 := below_cell h2 hz d6) | (go_at_call 52; refine (hF _).mono ?_; rintro e w3 ⟨rfl, h3⟩))
        go_ret
        exact ⟨rfl, below_step (below_step (below_step bA h1) h2) h3⟩
set_option maxHeartbeats 1000000 in
theorem rop_any (k a b f t : Int) (s v : ByteArray) (w : World) (hs : s.size ≤ maxLen) (hv : v.size ≤ maxLen) :
    Calls Tryz.prog 22 #[.agg #[.int .i64 k, .int .i64 a, .string s, .int .i64 b, .int .i64 f, .int .i64 t, .string v]] w fun e w' => e = .returned (.bool (opB ⟨⟨k, a, s, b⟩, f, t, v⟩)) ∧ Below w.heap.size w w' := by
  obtain ⟨W, hW⟩ : ∃ W, W = w.alloc (.cells #[.int .i64 k, .int .i64 a, .string s, .int .i64 b, .int .i64 f, .int .i64 t, .string v] 44) := ⟨_, rfl⟩
  have bA : Below w.heap.size w W := by rw [hW]; exact (Below.refl _ w).alloc (Nat.le_refl _) _
  have hwW : w.heap.size < W.heap.size := by rw [hW]; simp
  have c0 : W.cell? ⟨w.heap.size, 0, none⟩ = some (.int .i64 k) := by rw [hW]; simp
  have c1 : W.cell? ⟨w.heap.size, 1, none⟩ = some (.int .i64 a) := by rw [hW]; simp
  have c2 : W.cell? ⟨w.heap.size, 2, none⟩ = some (.string s) := by rw [hW]; simp
  have c3 : W.cell? ⟨w.heap.size, 3, none⟩ = some (.int .i64 b) := by rw [hW]; simp
  have c4 : W.cell? ⟨w.heap.size, 4, none⟩ = some (.int .i64 f) := by rw [hW]; simp
  have c5 : W.cell? ⟨w.heap.size, 5, none⟩ = some (.int .i64 t) := by rw [hW]; simp
  have c6 : W.cell? ⟨w.heap.size, 6, none⟩ = some (.string v) := by rw [hW]; simp
  have HW := Lib.hid hW
  clear hW
  have hK := fun W' => rkey_any k a b s W' hs
  have hR := fun W' => rright_any f t W'
  have hF : ∀ W', Calls Tryz.prog 43 #[.string v] W' fun e w' => e = .returned (.bool (wordB v)) ∧ w' = W' := fun W' => rword_any v W' hv
  rw [opB_mk]
  cases e1 : keyB ⟨k, a, s, b⟩
  · simp only [e1] at hK
    go_enter Tryz.func22, Tryz.ntmps22
    go_wp2_with fail
    rw [← HW.out]
    go_wp2_with (go_at_call 41; refine (hK _).mono ?_; rintro e w1 ⟨rfl, h1⟩)
    go_ret
    exact ⟨rfl, below_step bA h1⟩
  · simp only [e1] at hK
    cases e2 : rightB f t
    · simp only [e2] at hR
      go_enter Tryz.func22, Tryz.ntmps22
      go_wp2_with fail
      rw [← HW.out]
      go_wp2_with (first | (go_at_call 41; refine (hK _).mono ?_; rintro e w1 ⟨rfl, h1⟩; have d4 := below_cell h1 hwW c4; have d5 := below_cell h1 hwW c5) | (go_at_call 42; refine (hR _).mono ?_; rintro e w2 ⟨rfl, h2⟩))
      go_ret
      exact ⟨rfl, below_step (below_step bA h1) h2⟩
    · simp only [e2] at hR
      by_cases h0 : v.size = 0
      · have e3 := empty_true h0
        rw [h0]
        go_enter Tryz.func22, Tryz.ntmps22
        go_wp2_with fail
        rw [← HW.out]
        go_wp2_with (first | (go_at_call 41; refine (hK _).mono ?_; rintro e w1 ⟨rfl, h1⟩; have d4 := below_cell h1 hwW c4; have d5 := below_cell h1 hwW c5; have d6 := below_cell h1 hwW c6; have hz := Nat.lt_of_lt_of_le hwW h1.size) | (go_at_call 42; refine (hR _).mono ?_; rintro e w2 ⟨rfl, h2⟩; have g6 := below_cell h2 hz d6))
        go_ret
        exact ⟨rfl, below_step (below_step bA h1) h2⟩
      · have e3 := empty_false h0
        have h0' : decide (v.size = 0) = false := decide_eq_false h0
        rw [h0']
        clear h0'
        go_enter Tryz.func22, Tryz.ntmps22
        go_wp2_with fail
        rw [← HW.out]
        go_wp2_with (first | (go_at_call 41; refine (hK _).mono ?_; rintro e w1 ⟨rfl, h1⟩; have d4 := below_cell h1 hwW c4; have d5 := below_cell h1 hwW c5; have d6 := below_cell h1 hwW c6; have hz := Nat.lt_of_lt_of_le hwW h1.size) | (go_at_call 42; refine (hR _).mono ?_; rintro e w2 ⟨rfl, h2⟩; have g6 := below_cell h2 hz d6) | (go_at_call 43; refine (hF _).mono ?_; rintro e w3 ⟨rfl, rfl⟩))
        go_ret
        exact ⟨rfl, below_step (below_step bA h1) h2⟩
theorem fwrite1_any (k a b f t : Int) (s v : ByteArray) (w : World) (hs : s.size ≤ maxLen) (hv : v.size ≤ maxLen) :
    Calls Tryz.prog 30 #[.agg #[.int .i64 k, .int .i64 a, .string s, .int .i64 b, .int .i64 f, .int .i64 t, .string v]] w fun e w' => e = .returned (.bool (!opB ⟨⟨k, a, s, b⟩, f, t, v⟩)) ∧ Below w.heap.size w w' := by
  go_enter Tryz.func30, Tryz.ntmps30
  go_wp2_with (go_at_call 31; refine (fop_any k a b f t s v _ hs hv).mono ?_; rintro e w1 ⟨rfl, h1⟩)
  go_ret
  exact ⟨rfl, below_over h1⟩
end Go.Proofs.YtjgmgaleaihjpaaGreatDoor
