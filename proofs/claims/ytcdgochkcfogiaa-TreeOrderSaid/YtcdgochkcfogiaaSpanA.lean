/- Contracts of the small functions on spans: span.Right, span.Has, span.Meet and the references' in, Right, Has: what each returns; nothing that was there before the call changes. There are no conditions. -/
import Derived.Test.YtcdgochkcfogiaaKit
namespace Go.Proofs.Ytcdgochkcfogiaa
open Go.RowKit

def rightB (f t : Int) : Bool := decide (-1099511627776 ≤ f ∧ t ≤ 1099511627776 ∧ f < t)
def inB (n low high : Int) : Bool := decide (low ≤ n ∧ n ≤ high)
theorem ret_bool {a b : Bool} (h : a = b) : Ending.returned (.bool a) = .returned (.bool b) := by rw [h]

theorem right_any (f t : Int) (w : World) :
    Calls Try.prog 6 #[.agg #[.int .i64 f, .int .i64 t]] w fun e w' => e = .returned (.bool (rightB f t)) ∧ Below w.heap.size w w' := by
  by_cases h1 : -1099511627776 ≤ f
  · by_cases h2 : t ≤ 1099511627776
    · by_cases h3 : f < t
      · go_enter Try.func6, Try.ntmps6
        go_wp2
        go_ret
        exact ⟨ret_bool (decide_eq_true (by omega)).symm, (Below.refl _ _).alloc (Nat.le_refl _) _⟩
      · go_enter Try.func6, Try.ntmps6
        go_wp2
        go_ret
        exact ⟨ret_bool (decide_eq_false (by omega)).symm, (Below.refl _ _).alloc (Nat.le_refl _) _⟩
    · go_enter Try.func6, Try.ntmps6
      go_wp2
      go_ret
      exact ⟨ret_bool (decide_eq_false (by omega)).symm, (Below.refl _ _).alloc (Nat.le_refl _) _⟩
  · go_enter Try.func6, Try.ntmps6
    go_wp2
    go_ret
    exact ⟨ret_bool (decide_eq_false (by omega)).symm, (Below.refl _ _).alloc (Nat.le_refl _) _⟩

theorem has_any (f t x : Int) (w : World) :
    Calls Try.prog 8 #[.agg #[.int .i64 f, .int .i64 t], .int .i64 x] w fun e w' => e = .returned (.bool (hasB f t x)) ∧ Below w.heap.size w w' := by
  by_cases h1 : f ≤ x
  · by_cases h2 : x < t
    · go_enter Try.func8, Try.ntmps8
      go_wp2
      go_ret
      exact ⟨ret_bool (decide_eq_true (by omega)).symm, (Below.refl _ _).alloc (Nat.le_refl _) _⟩
    · go_enter Try.func8, Try.ntmps8
      go_wp2
      go_ret
      exact ⟨ret_bool (decide_eq_false (by omega)).symm, (Below.refl _ _).alloc (Nat.le_refl _) _⟩
  · go_enter Try.func8, Try.ntmps8
    go_wp2
    go_ret
    exact ⟨ret_bool (decide_eq_false (by omega)).symm, (Below.refl _ _).alloc (Nat.le_refl _) _⟩

theorem rhas_any (f t x : Int) (w : World) :
    Calls Try.prog 9 #[.agg #[.int .i64 f, .int .i64 t], .int .i64 x] w fun e w' => e = .returned (.bool (hasB f t x)) ∧ Below w.heap.size w w' := by
  by_cases h1 : f ≤ x
  · by_cases h2 : x < t
    · go_enter Try.func9, Try.ntmps9
      go_wp2
      go_ret
      exact ⟨ret_bool (decide_eq_true (by omega)).symm, (Below.refl _ _).alloc (Nat.le_refl _) _⟩
    · go_enter Try.func9, Try.ntmps9
      go_wp2
      go_ret
      exact ⟨ret_bool (decide_eq_false (by omega)).symm, (Below.refl _ _).alloc (Nat.le_refl _) _⟩
  · go_enter Try.func9, Try.ntmps9
    go_wp2
    go_ret
    exact ⟨ret_bool (decide_eq_false (by omega)).symm, (Below.refl _ _).alloc (Nat.le_refl _) _⟩

theorem in_any (n low high : Int) (w : World) :
    Calls Try.prog 33 #[.int .i64 n, .int .i64 low, .int .i64 high] w fun e w' => e = .returned (.bool (inB n low high)) ∧ w = w' := by
  by_cases h1 : low ≤ n
  · by_cases h2 : n ≤ high
    · go_enter Try.func33, Try.ntmps33
      go_wp2
      go_ret
      exact ⟨ret_bool (decide_eq_true (by omega)).symm, rfl⟩
    · go_enter Try.func33, Try.ntmps33
      go_wp2
      go_ret
      exact ⟨ret_bool (decide_eq_false (by omega)).symm, rfl⟩
  · go_enter Try.func33, Try.ntmps33
    go_wp2
    go_ret
    exact ⟨ret_bool (decide_eq_false (by omega)).symm, rfl⟩

theorem in_yes (n low high : Int) (w : World) (h : low ≤ n ∧ n ≤ high) :
    Calls Try.prog 33 #[.int .i64 n, .int .i64 low, .int .i64 high] w fun e w' => e = .returned (.bool true) ∧ w = w' :=
  (in_any n low high w).mono fun _ _ ⟨he, hw⟩ => ⟨he.trans (ret_bool (decide_eq_true h)), hw⟩
theorem in_no (n low high : Int) (w : World) (h : ¬ (low ≤ n ∧ n ≤ high)) :
    Calls Try.prog 33 #[.int .i64 n, .int .i64 low, .int .i64 high] w fun e w' => e = .returned (.bool false) ∧ w = w' :=
  (in_any n low high w).mono fun _ _ ⟨he, hw⟩ => ⟨he.trans (ret_bool (decide_eq_false h)), hw⟩

theorem rright_any (f t : Int) (w : World) :
    Calls Try.prog 7 #[.agg #[.int .i64 f, .int .i64 t]] w fun e w' => e = .returned (.bool (rightB f t)) ∧ Below w.heap.size w w' := by
  by_cases h1 : -1099511627776 ≤ f ∧ f ≤ 1099511627776
  · have e1 : inB f (-1099511627776) 1099511627776 = true := decide_eq_true h1
    by_cases h2 : -1099511627776 ≤ t ∧ t ≤ 1099511627776
    · have e2 : inB t (-1099511627776) 1099511627776 = true := decide_eq_true h2
      by_cases h3 : f < t
      · have e3 : rightB f t = true := decide_eq_true (by omega)
        clear h1 h2
        go_enter Try.func7, Try.ntmps7
        go_wp2_with (go_at_call 33; refine (in_any _ _ _ _).mono ?_; rintro e w' ⟨rfl, rfl⟩)
        go_ret
        exact ⟨ret_bool e3.symm, (Below.refl _ _).alloc (Nat.le_refl _) _⟩
      · have e3 : rightB f t = false := decide_eq_false (by omega)
        clear h1 h2
        go_enter Try.func7, Try.ntmps7
        go_wp2_with (go_at_call 33; refine (in_any _ _ _ _).mono ?_; rintro e w' ⟨rfl, rfl⟩)
        go_ret
        exact ⟨ret_bool (by rw [e3]; exact decide_eq_false (by omega)), (Below.refl _ _).alloc (Nat.le_refl _) _⟩
    · have e2 : inB t (-1099511627776) 1099511627776 = false := decide_eq_false h2
      have e3 : rightB f t = false := decide_eq_false (by omega)
      clear h1 h2
      go_enter Try.func7, Try.ntmps7
      go_wp2_with (go_at_call 33; refine (in_any _ _ _ _).mono ?_; rintro e w' ⟨rfl, rfl⟩)
      go_ret
      exact ⟨ret_bool e3.symm, (Below.refl _ _).alloc (Nat.le_refl _) _⟩
  · have e1 : inB f (-1099511627776) 1099511627776 = false := decide_eq_false h1
    have e3 : rightB f t = false := decide_eq_false (by omega)
    clear h1
    go_enter Try.func7, Try.ntmps7
    go_wp2_with (go_at_call 33; refine (in_any _ _ _ _).mono ?_; rintro e w' ⟨rfl, rfl⟩)
    go_ret
    exact ⟨ret_bool e3.symm, (Below.refl _ _).alloc (Nat.le_refl _) _⟩

theorem ret_span {a b c d : Int} {o : Bool} (h : a = c) (h' : b = d) : Ending.returned (.tuple #[.agg #[.int .i64 a, .int .i64 b], .bool o]) = .returned (.tuple #[.agg #[.int .i64 c, .int .i64 d], .bool o]) := by rw [h, h']
/-- Meet: what two have in common. -/
theorem meet_yes (a b c d : Int) (w : World) (h : imax a c < imin b d) :
    Calls Try.prog 13 #[.agg #[.int .i64 a, .int .i64 b], .agg #[.int .i64 c, .int .i64 d]] w fun e w' =>
      e = .returned (.tuple #[.agg #[.int .i64 (imax a c), .int .i64 (imin b d)], .bool true]) ∧ Below w.heap.size w w' := by
  have HB : ∀ o1 o2 o3 o4, Below w.heap.size w ((((w.alloc o1).alloc o2).alloc o3).alloc o4) := fun o1 o2 o3 o4 =>
    ((((Below.refl _ _).alloc (Nat.le_refl _) _).alloc (by simp) _).alloc (by simp; omega) _).alloc (by simp; omega) _
  go_enter Try.func13, Try.ntmps13
  go_wp2
  exact bodyPost_ret (v := .tuple #[.agg #[.int .i64 (imax a c), .int .i64 (imin b d)], .bool true]) (by simp [results, Try.results13, go_sem]) rfl ⟨rfl, HB _ _ _ _⟩
theorem meet_no (a b c d : Int) (w : World) (h : imin b d ≤ imax a c) :
    Calls Try.prog 13 #[.agg #[.int .i64 a, .int .i64 b], .agg #[.int .i64 c, .int .i64 d]] w fun e w' =>
      e = .returned (.tuple #[.agg #[.int .i64 0, .int .i64 0], .bool false]) ∧ Below w.heap.size w w' := by
  have HB : ∀ o1 o2 o3 o4, Below w.heap.size w ((((w.alloc o1).alloc o2).alloc o3).alloc o4) := fun o1 o2 o3 o4 =>
    ((((Below.refl _ _).alloc (Nat.le_refl _) _).alloc (by simp) _).alloc (by simp; omega) _).alloc (by simp; omega) _
  go_enter Try.func13, Try.ntmps13
  go_wp2
  exact bodyPost_ret (v := .tuple #[.agg #[.int .i64 0, .int .i64 0], .bool false]) (by simp [results, Try.results13, go_sem]) rfl ⟨rfl, HB _ _ _ _⟩
end Go.Proofs.Ytcdgochkcfogiaa
