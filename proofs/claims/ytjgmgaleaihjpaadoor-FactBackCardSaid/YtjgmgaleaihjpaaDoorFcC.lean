/- The order of keys: what the program and the document's answer compute. -/
import Derived.Test.YtjgmgaleaihjpaaDoorFcB
namespace Go.Proofs.YtjgmgaleaihjpaaDoor
open Go.RowKit

set_option maxHeartbeats 1000000 in
theorem rless_any (k a b k' a' b' : Int) (s s' : ByteArray) (w : World) :
    Calls Tryd.prog 6 #[.agg #[.int .i64 k, .int .i64 a, .string s, .int .i64 b], .agg #[.int .i64 k', .int .i64 a', .string s', .int .i64 b']] w fun e w' => e = .returned (.bool (keyLess ⟨k, a, s, b⟩ ⟨k', a', s', b'⟩)) ∧ Below w.heap.size w w' := by
  have bA : Below w.heap.size w ((w.alloc (.cells #[.int .i64 k, .int .i64 a, .string s, .int .i64 b] 24)).alloc (.cells #[.int .i64 k', .int .i64 a', .string s', .int .i64 b'] 24)) := ((Below.refl _ w).alloc (Nat.le_refl _) _).alloc (by simp) _
  have f1 : (k != k') = true → keyLess ⟨k, a, s, b⟩ ⟨k', a', s', b'⟩ = decide (k < k') := fun h => by
    have h' : k ≠ k' := by simpa using h
    unfold keyLess; simp only [ne_eq, h', not_false_eq_true, if_true]
  have f2 : (k != k') = false → (a != a') = true → keyLess ⟨k, a, s, b⟩ ⟨k', a', s', b'⟩ = decide (a < a') := fun h1 h2 => by
    have h1' : k = k' := by simpa using h1
    have h2' : a ≠ a' := by simpa using h2
    unfold keyLess; simp only [ne_eq, h1', h2', not_true_eq_false, not_false_eq_true, if_true, if_false]
  have f3 : (k != k') = false → (a != a') = false → (!s.toList == s'.toList) = true → keyLess ⟨k, a, s, b⟩ ⟨k', a', s', b'⟩ = Op.bytesLess s.toList s'.toList := fun h1 h2 h3 => by
    have h1' : k = k' := by simpa using h1
    have h2' : a = a' := by simpa using h2
    have h3' : s ≠ s' := fun e => by subst e; simp at h3
    unfold keyLess; simp only [ne_eq, h1', h2', h3', not_true_eq_false, not_false_eq_true, if_true, if_false]
    rw [ByteArray.toList_eq, ByteArray.toList_eq]
  have f4 : (k != k') = false → (a != a') = false → (!s.toList == s'.toList) = false → keyLess ⟨k, a, s, b⟩ ⟨k', a', s', b'⟩ = decide (b < b') := fun h1 h2 h3 => by
    have h1' : k = k' := by simpa using h1
    have h2' : a = a' := by simpa using h2
    have h3' : s = s' := by
      have h4 : s.toList = s'.toList := by simpa using h3
      rw [ByteArray.toList_eq, ByteArray.toList_eq] at h4
      exact bytes_ext h4
    unfold keyLess; simp only [ne_eq, h1', h2', h3', not_true_eq_false, if_false]
  have F1 := Lib.hid f1
  have F2 := Lib.hid f2
  have F3 := Lib.hid f3
  have F4 := Lib.hid f4
  clear f1 f2 f3 f4
  generalize keyLess ⟨k, a, s, b⟩ ⟨k', a', s', b'⟩ = r at *
  go_enter Tryd.func6, Tryd.ntmps6
  go_wp2
  all_goals
    go_ret
    first
      | exact ⟨ret_bool (F1.out (by assumption)).symm, bA⟩
      | exact ⟨ret_bool (F2.out (by assumption) (by assumption)).symm, bA⟩
      | exact ⟨ret_bool (F3.out (by assumption) (by assumption) (by assumption)).symm, bA⟩
      | exact ⟨ret_bool (F4.out (by assumption) (by assumption) (by assumption)).symm, bA⟩
theorem cmpArr (x y z u : Int) : ∀ w, (Instr.index 67 (.agg #[.int .i64 x, .int .i64 y, .int .i64 z, .int .i64 u]) (.int .i64 0)).run Tryd.prog w = .ok (.agg #[.int .i64 x, .int .i64 y]) w ∧
    (Instr.index 67 (.agg #[.int .i64 x, .int .i64 y, .int .i64 z, .int .i64 u]) (.int .i64 1)).run Tryd.prog w = .ok (.agg #[.int .i64 z, .int .i64 u]) w := fun w => ⟨by kernel_rfl, by kernel_rfl⟩
set_option maxHeartbeats 1000000 in
theorem fcmp_any (k a b k' a' b' : Int) (s s' : ByteArray) (w : World) :
    Calls Tryd.prog 14 #[.agg #[.int .i64 k, .int .i64 a, .string s, .int .i64 b], .agg #[.int .i64 k', .int .i64 a', .string s', .int .i64 b']] w fun e w' => e = .returned (.int .i64 (keyCmp ⟨k, a, s, b⟩ ⟨k', a', s', b'⟩)) ∧ Below w.heap.size w w' := by
  have i1 := fun w => (cmpArr k k' a a' w).1
  have i2 := fun w => (cmpArr k k' a a' w).2
  have b2 : Below w.heap.size w ((w.alloc (.cells #[.int .i64 k, .int .i64 a, .string s, .int .i64 b] 24)).alloc (.cells #[.int .i64 k', .int .i64 a', .string s', .int .i64 b'] 24)) := ((Below.refl _ w).alloc (Nat.le_refl _) _).alloc (by simp) _
  have b3 : Below w.heap.size w (((w.alloc (.cells #[.int .i64 k, .int .i64 a, .string s, .int .i64 b] 24)).alloc (.cells #[.int .i64 k', .int .i64 a', .string s', .int .i64 b'] 24)).alloc (.cells #[.int .i64 k, .int .i64 k'] 66)) := b2.alloc (by simp; omega) _
  have b4 : Below w.heap.size w ((((w.alloc (.cells #[.int .i64 k, .int .i64 a, .string s, .int .i64 b] 24)).alloc (.cells #[.int .i64 k', .int .i64 a', .string s', .int .i64 b'] 24)).alloc (.cells #[.int .i64 k, .int .i64 k'] 66)).alloc (.cells #[.int .i64 a, .int .i64 a'] 66)) := b3.alloc (by simp; omega) _
  by_cases h1 : k = k'
  · subst h1
    by_cases h2 : a = a'
    · subst h2
      by_cases h3 : s = s'
      · subst h3
        by_cases h4 : b = b'
        · subst h4
          have e : keyCmp ⟨k, a, s, b⟩ ⟨k, a, s, b⟩ = 0 := by unfold keyCmp; simp
          rw [e]; clear e
          go_enter Tryd.func14, Tryd.ntmps14
          go_wp2
          refine wp_loop_rounds 3 ?_
          rw [rounds_succ]
          go_wp2
          rw [rounds_succ]
          go_wp2
          rw [rounds_succ]
          go_wp2
          go_ret
          exact ⟨rfl, b4⟩
        · have e : keyCmp ⟨k, a, s, b⟩ ⟨k, a, s, b'⟩ = sgn (decide (b' < b)) := by unfold keyCmp; simp [h4]
          rw [e]; clear e
          have n4 : (b != b') = true := by simpa using h4
          have n5 : ((b : Int) == b') = false := by simpa using h4
          go_enter Tryd.func14, Tryd.ntmps14
          go_wp2
          refine wp_loop_rounds 3 ?_
          rw [rounds_succ]
          go_wp2
          rw [rounds_succ]
          go_wp2
          rw [rounds_succ]
          go_wp2_with (go_at_call 34; refine (sign_any _ _).mono ?_; rintro e w' ⟨rfl, rfl⟩)
          go_ret
          exact ⟨rfl, b4⟩
      · have n3 : (!s.toList == s'.toList) = true := by
          have : ¬ s.toList = s'.toList := fun e => h3 (bytes_ext (by rw [← ByteArray.toList_eq, ← ByteArray.toList_eq]; exact e))
          simpa using this
        have n4 : (s.toList == s'.toList) = false := by simpa using n3
        have e : keyCmp ⟨k, a, s, b⟩ ⟨k, a, s', b'⟩ = sgn (!(Op.bytesLess s.toList s'.toList || (s.toList == s'.toList))) := by
          have h : (!(Op.bytesLess s.toList s'.toList || (s.toList == s'.toList))) = Op.bytesLess s'.data.toList s.data.toList := by
            rw [n4, Bool.or_false, ByteArray.toList_eq, ByteArray.toList_eq]
            rcases bless_tri s.data.toList s'.data.toList with h | h | h
            · rw [h, bless_asymm _ _ h]; rfl
            · exact absurd (bytes_ext h) h3
            · rw [h, bless_asymm _ _ h]; rfl
          rw [h]
          unfold keyCmp; simp [h3]
        rw [e]; clear e
        go_enter Tryd.func14, Tryd.ntmps14
        go_wp2
        refine wp_loop_rounds 3 ?_
        rw [rounds_succ]
        go_wp2
        rw [rounds_succ]
        go_wp2
        rw [rounds_succ]
        go_wp2_with (go_at_call 34; refine (sign_any _ _).mono ?_; rintro e w' ⟨rfl, rfl⟩)
        go_ret
        exact ⟨by rw [n4, Bool.or_false]; rfl, b4⟩
    · have e : keyCmp ⟨k, a, s, b⟩ ⟨k, a', s', b'⟩ = sgn (decide (a' < a)) := by unfold keyCmp; simp [h2]
      rw [e]; clear e
      have n4 : (a != a') = true := by simpa using h2
      go_enter Tryd.func14, Tryd.ntmps14
      go_wp2
      refine wp_loop_rounds 3 ?_
      rw [rounds_succ]
      go_wp2
      rw [rounds_succ]
      go_wp2_with (go_at_call 34; refine (sign_any _ _).mono ?_; rintro e w' ⟨rfl, rfl⟩)
      go_ret
      exact ⟨rfl, b4⟩
  · have e : keyCmp ⟨k, a, s, b⟩ ⟨k', a', s', b'⟩ = sgn (decide (k' < k)) := by unfold keyCmp; simp [h1]
    rw [e]; clear e
    have n4 : (k != k') = true := by simpa using h1
    go_enter Tryd.func14, Tryd.ntmps14
    go_wp2
    refine wp_loop_rounds 3 ?_
    rw [rounds_succ]
    go_wp2_with (go_at_call 34; refine (sign_any _ _).mono ?_; rintro e w' ⟨rfl, rfl⟩)
    go_ret
    exact ⟨rfl, b3⟩
end Go.Proofs.YtjgmgaleaihjpaaDoor
