/- Where there is nothing, nobody has a time: no slice is made. -/
import Derived.Test.YtgbbldbkkmjedaaDoorPlayS
namespace Go.Proofs.YtgbbldbkkmjedaaDoor
open Go.RowKit Go.Deep Go.Shelf Go.Sort Go.Maps

set_option maxRecDepth 100000 in
set_option maxHeartbeats 1000000 in
theorem meets1_none (base sb kb ob : Nat) (f t : Int) (v : Value) (out : List Int) (w : World) (_h : MeetW base sb kb ob f t v out w) :
    Calls Tryd.prog 56 #[.pointer none, .pointer (some ⟨sb, 0, none⟩), .pointer (some ⟨kb, 0, none⟩), .pointer (some ⟨ob, 0, none⟩)] w fun e w' => e = .returned (.tuple #[]) ∧ ∃ n, w' = w.drewN n := by
  go_enter Tryd.func56, Tryd.ntmps56
  go_wp2_with fail
  go_quiet (fail)
  go_wp2_with fail
  exact bodyPost_ret (results_none rfl _ _ _) rfl ⟨rfl, _, rfl⟩

set_option maxRecDepth 100000 in
set_option maxHeartbeats 4000000 in
theorem tmeets_nil (f t : Int) (w : World) (tb : Nat) (mb : Option Nat) (h : TreeAt w tb [] .nil mb) :
    Calls Tryd.prog 15 #[.pointer (some ⟨tb, 0, none⟩), .agg #[.int .i64 f, .int .i64 t]] w fun e w' => e = .returned (.slice none 0 0) ∧ Below w.heap.size w w' := by
  have hmf : ∀ (fn : Fn) (first cap : Array Value) (w : World), (Instr.makeFunc fn first cap).run Tryd.prog w = .ok (.func fn first cap) w := fun _ _ _ _ => rfl
  have htb : tb < w.heap.size := h.lt tb (Or.inl rfl)
  have hc : w.heap[tb]? = some (.cells #[.pointer none, .map mb] 26 (0, 0)) := h.cells
  have HC := Lib.hid hc
  have hR := fun W => right_any f t W
  have hST := meet_start w f t
  obtain ⟨W0, hW0⟩ : ∃ W0, W0 = (((w.alloc (.cells #[.int .i64 f, .int .i64 t] 34)).alloc (.cells #[.slice none 0 0] 28)).alloc (.cells #[.func (.func 56) #[] #[.pointer (some ⟨w.heap.size, 0, none⟩), .pointer (some ⟨w.heap.size + 1 + 1, 0, none⟩), .pointer (some ⟨w.heap.size + 1, 0, none⟩)]] 98)) := ⟨_, rfl⟩
  rw [← hW0] at hST
  have hB0 : Below w.heap.size w W0 := by rw [hW0]; exact (((Below.refl _ w).alloc (Nat.le_refl _) _).alloc (by simp) _).alloc (by simp; omega) _
  have hs0 : W0.heap.size = w.heap.size + 1 + 1 + 1 := by rw [hW0]; simp
  have HW0 := Lib.hid hW0
  have HST := Lib.hid hST
  have HB0 := Lib.hid hB0
  have HS0 := Lib.hid hs0
  clear h hc hST hB0 hW0 hs0
  cases hr : rightB f t
  · rw [hr] at hR
    clear hr
    go_enter Tryd.func15, Tryd.ntmps15
    go_wp2_with fail
    rw [← HW0.out]
    refine (hR _).mono ?_
    rintro e w1 ⟨rfl, b1⟩
    have M1 : MeetW (w.heap.size + 1 + 1 + 1) w.heap.size (w.heap.size + 1 + 1) (w.heap.size + 1) f t (.slice none 0 0) [] w1 := HST.out.frame (Fr.new b1) ((Fr.new (F := fun _ => False) b1).keeps HST.out.ho (fun e => e)) (World.ownsRow_nil _ _ _ _)
    have HB1 := Lib.hid (HB0.out.trans (b1.mono (by rw [HS0.out]; omega)))
    have o0 := cell_of_one M1.ho
    clear b1 M1 hR hmf
    go_wp2_with fail
    refine (Tryd.slices_Sort_int_none none 0 w1).mono ?_
    rintro e w2 ⟨rfl, rfl⟩
    go_wp2_with fail
    go_ret
    exact ⟨rfl, HB1.out⟩
  · rw [hr] at hR
    clear hr
    go_enter Tryd.func15, Tryd.ntmps15
    go_wp2_with fail
    rw [← HW0.out]
    refine (hR _).mono ?_
    rintro e w1 ⟨rfl, b1⟩
    have M1 : MeetW (w.heap.size + 1 + 1 + 1) w.heap.size (w.heap.size + 1 + 1) (w.heap.size + 1) f t (.slice none 0 0) [] w1 := HST.out.frame (Fr.new b1) ((Fr.new (F := fun _ => False) b1).keeps HST.out.ho (fun e => e)) (World.ownsRow_nil _ _ _ _)
    have B1 := HB0.out.trans (b1.mono (by rw [HS0.out]; omega))
    have HB1 := Lib.hid B1
    have k0 := cell_of_one M1.hk
    have o0 := cell_of_one M1.ho
    have hc1 := (B1.block tb htb).trans HC.out
    obtain ⟨c0, _, _, _⟩ := tree_cells hc1
    have HM1 := Lib.hid M1
    clear b1 B1 hR hmf hc1 M1
    go_wp2_with fail
    go_region_held3 (fun W => W.cell? ⟨w.heap.size + 1 + 1, 0, none⟩ = some (.func (.func 56) #[] #[.pointer (some ⟨w.heap.size, 0, none⟩), .pointer (some ⟨w.heap.size + 1 + 1, 0, none⟩), .pointer (some ⟨w.heap.size + 1, 0, none⟩)]) ∧ W.cell? ⟨tb, 0, none⟩ = some (.pointer none))
      (first | exact ⟨k0, c0⟩ | exact hS3)
      ((go_at_call 56; refine (meets1_none _ _ _ _ f t _ [] _ (by exact HM1.out.drew)).mono ?_; rintro e w3 ⟨rfl, n3, hw3⟩; have hS3 : w3.cell? ⟨w.heap.size + 1 + 1, 0, none⟩ = some (.func (.func 56) #[] #[.pointer (some ⟨w.heap.size, 0, none⟩), .pointer (some ⟨w.heap.size + 1 + 1, 0, none⟩), .pointer (some ⟨w.heap.size + 1, 0, none⟩)]) ∧ w3.cell? ⟨tb, 0, none⟩ = some (.pointer none) := (by (rw [hw3]; exact ⟨k0, c0⟩)); have HW3 := Lib.hid hw3; clear hw3))
    have o3 : w3.cell? ⟨w.heap.size + 1, 0, none⟩ = some (.slice none 0 0) := by rw [HW3.out]; exact o0
    have HB3 := Lib.hid (show Below w.heap.size w w3 by rw [HW3.out]; exact below_drewN HB1.out.drew _)
    clear hS3 HW3 o0 k0 c0
    go_wp2_with fail
    refine (Tryd.slices_Sort_int_none none 0 w3).mono ?_
    rintro e w4 ⟨rfl, rfl⟩
    go_wp2_with fail
    go_ret
    exact ⟨rfl, HB3.out⟩

set_option maxRecDepth 100000 in
set_option maxHeartbeats 1000000 in
theorem tat_nil (x : Int) (w : World) (tb : Nat) (mb : Option Nat) (h : TreeAt w tb [] .nil mb) :
    Calls Tryd.prog 17 #[.pointer (some ⟨tb, 0, none⟩), .int .i64 x] w fun e w' => e = .returned (.slice none 0 0) ∧ Below w.heap.size w w' := by
  have HH := Lib.hid h
  clear h
  by_cases h1 : -1099511627776 ≤ x
  · by_cases h2 : x < 1099511627776
    · go_enter Tryd.func17, Tryd.ntmps17
      go_wp2_with fail
      refine (tmeets_nil x (x + 1) w tb mb HH.out).mono ?_
      rintro e w1 ⟨rfl, b1⟩
      have HB := Lib.hid b1
      clear b1
      go_wp2_with fail
      go_ret
      exact ⟨rfl, HB.out⟩
    · go_enter Tryd.func17, Tryd.ntmps17
      go_wp2_with fail
      go_ret
      exact ⟨rfl, Below.refl _ _⟩
  · go_enter Tryd.func17, Tryd.ntmps17
    go_wp2_with fail
    go_ret
    exact ⟨rfl, Below.refl _ _⟩

set_option maxRecDepth 100000 in
theorem rmeets_nil (f t : Int) (w : World) (base wb : Nat) (vi vs : Value) (h : RefAt w base wb [] vi vs) :
    Calls Tryd.prog 16 #[.pointer (some ⟨wb, 0, none⟩), .agg #[.int .i64 f, .int .i64 t]] w fun e w' => e = .returned (.slice none 0 0) ∧ Below w.heap.size w w' := by
  obtain ⟨ao, cap, rfl, _, _⟩ := ownsRow_slice h.sps
  have c1 := (rt_cells h.cells).2.1
  have hwl : wb < w.heap.size := Nat.lt_of_lt_of_le h.lt h.hb
  clear h
  go_enter Tryd.func16, Tryd.ntmps16
  go_wp2_with fail
  refine wp_loop_rounds 1 ?_
  rw [rounds_succ]
  go_wp2_with fail
  go_ret
  exact ⟨rfl, (Below.refl _ _).alloc (Nat.le_refl _) _⟩
set_option maxRecDepth 100000 in
theorem rat_nil (p : Int) (w : World) (base wb : Nat) (vi vs : Value) (h : RefAt w base wb [] vi vs) :
    Calls Tryd.prog 18 #[.pointer (some ⟨wb, 0, none⟩), .int .i64 p] w fun e w' => e = .returned (.slice none 0 0) ∧ Below w.heap.size w w' := by
  obtain ⟨ao, cap, rfl, _, _⟩ := ownsRow_slice h.sps
  have c1 := (rt_cells h.cells).2.1
  clear h
  go_enter Tryd.func18, Tryd.ntmps18
  go_wp2_with fail
  refine wp_loop_rounds 1 ?_
  rw [rounds_succ]
  go_wp2_with fail
  go_ret
  exact ⟨rfl, Below.refl _ _⟩
theorem nil_of_items {T : BT Nd} (h : (itemsT T).length = 0) : T = .nil := by
  cases T with
  | nil => rfl
  | node b o a l r => simp [itemsT] at h
theorem play_nil {S : Nat → Prop} {B tb wb : Nat} {w : World} (h : Play S B tb wb [] [] w) (f t : Int) :
    (Calls Tryd.prog 15 #[.pointer (some ⟨tb, 0, none⟩), .agg #[.int .i64 f, .int .i64 t]] w fun e w' => e = .returned (.slice none 0 0) ∧ Below w.heap.size w w') ∧
    (Calls Tryd.prog 17 #[.pointer (some ⟨tb, 0, none⟩), .int .i64 f] w fun e w' => e = .returned (.slice none 0 0) ∧ Below w.heap.size w w') ∧
    (Calls Tryd.prog 16 #[.pointer (some ⟨wb, 0, none⟩), .agg #[.int .i64 f, .int .i64 t]] w fun e w' => e = .returned (.slice none 0 0) ∧ Below w.heap.size w w') ∧
    (Calls Tryd.prog 18 #[.pointer (some ⟨wb, 0, none⟩), .int .i64 f] w fun e w' => e = .returned (.slice none 0 0) ∧ Below w.heap.size w w') ∧
    (Calls Tryd.prog 19 #[.pointer (some ⟨tb, 0, none⟩)] w fun e w' => e = .returned (.int .i64 0) ∧ Below w.heap.size w w') ∧
    (Calls Tryd.prog 20 #[.pointer (some ⟨tb, 0, none⟩)] w fun e w' => e = .returned (.int .i64 0) ∧ Below w.heap.size w w') := by
  obtain ⟨⟨T, mb, vi, vs, h1, h2, _⟩, _⟩ := h
  have hT : T = .nil := nil_of_items (by rw [h1.perm.length_eq]; rfl)
  subst hT
  refine ⟨tmeets_nil f t w tb mb h1, tat_nil f w tb mb h1, rmeets_nil f t w _ wb vi vs h2, rat_nil f w _ wb vi vs h2, ?_, ?_⟩
  · refine (many_any w tb [] .nil mb h1).mono ?_
    rintro e w' ⟨he, rfl⟩
    exact ⟨he, Below.refl _ _⟩
  · refine (thigh_any w tb [] .nil mb h1).mono ?_
    rintro e w' ⟨he, rfl⟩
    exact ⟨he, Below.refl _ _⟩
end Go.Proofs.YtgbbldbkkmjedaaDoor
