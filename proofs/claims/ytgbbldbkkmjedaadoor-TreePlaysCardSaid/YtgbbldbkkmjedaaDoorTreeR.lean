/- Who has a time of a span (Meets), and who has a time (At). -/
import Derived.Test.YtgbbldbkkmjedaaDoorTreeQ
import Derived.Laws.EntriesVeiled
namespace Go.Proofs.YtgbbldbkkmjedaaDoor
open Go.RowKit Go.Deep Go.Shelf Go.Sort Go.Maps

theorem sortSlice_own (base : Nat) (l : List Int) (v : Value) (w : World) (hown : w.ownsRow base 3 1 v l.length (l.map (Value.int .i64))) (hb : base ≤ w.heap.size) (hsz : l.length < 4611686018427387904) :
    Calls Tryd.prog 57 #[v] w fun e w' => e = .returned (.tuple #[]) ∧ w'.ownsRow base 3 1 v l.length ((sortI l).map (Value.int .i64)) ∧ Below base w w' := by
  rcases hown.2 with ⟨rfl, hn⟩ | ⟨g, cap, cur, rfl, hbg, hh, hnc, hcm, hcs, htk⟩
  · have hl : l = [] := List.eq_nil_of_length_eq_zero hn
    subst hl
    refine (Tryd.slices_Sort_int_none none 0 w).mono ?_
    rintro e w' ⟨rfl, rfl⟩
    exact ⟨rfl, by simpa [sortI] using hown, Below.refl _ _⟩
  · have hH : Holds (Value.int .i64) w g 0 l.toArray := holds_of_blockI hh (by rw [Nat.mul_one] at htk; exact htk)
    have hgl : g < w.heap.size := (Array.getElem?_eq_some_iff.1 hh).1
    refine (Tryd.slices_Sort_int g 0 cap l w hH hgl hsz).mono ?_
    rintro e w' ⟨rfl, n, os, rfl⟩
    refine ⟨rfl, ?_, ?_⟩
    · exact ownsRow_sortedI (by simp) hbg hh hnc hcm hcs
    · exact (Below.refl base w).grown (grownBy_sortedI _) hb (fun k hk => by cases hk; exact hbg)

theorem sortI_perm {l m : List Int} (h : l.Perm m) : sortI l = sortI m := by
  refine List.Perm.eq_of_pairwise (le := (· ≤ ·)) (fun a b _ _ h1 h2 => Int.le_antisymm h1 h2) (sortI_sorted l) (sortI_sorted m) ?_
  exact ((List.mergeSort_perm l _).trans h).trans (List.mergeSort_perm m _).symm
/-- The numbers of those that have a time of a span, rising. -/
def meetsL (L : List It) (f t : Int) : List Int := if rightB f t then sortI ((L.filter (meetsT f t)).map (·.2.1)) else []

theorem ownsRow_base {w : World} {base base' : Nat} {e : TypeId} {size : Nat} {v : Value} {n : Nat} {xs : List Value} (h : w.ownsRow base e size v n xs) (hb : base' ≤ base) : w.ownsRow base' e size v n xs :=
  ⟨h.1, h.2.imp id fun ⟨g, cap, cur, h1, h2, h3⟩ => ⟨g, cap, cur, h1, Nat.le_trans hb h2, h3⟩⟩
/-- The world in which Meets begins its walk. -/
theorem meet_start (w : World) (f t : Int) : MeetW (w.heap.size + 1 + 1 + 1) w.heap.size (w.heap.size + 1 + 1) (w.heap.size + 1) f t (.slice none 0 0) []
    (((w.alloc (.cells #[.int .i64 f, .int .i64 t] 34)).alloc (.cells #[.slice none 0 0] 28)).alloc (.cells #[.func (.func 56) #[] #[.pointer (some ⟨w.heap.size, 0, none⟩), .pointer (some ⟨w.heap.size + 1 + 1, 0, none⟩), .pointer (some ⟨w.heap.size + 1, 0, none⟩)]] 98)) := by
  refine ⟨block_alloc (block_alloc (block_alloc_new w _) _) _, ?_, block_alloc (new_node w _ _ rfl) _, World.ownsRow_nil _ _ _ _, by omega, by omega, by omega, by omega, by omega, by simp⟩
  have h : ((w.alloc (.cells #[.int .i64 f, .int .i64 t] 34)).alloc (.cells #[.slice none 0 0] 28)).heap.size = w.heap.size + 1 + 1 := by simp
  have := block_alloc_new ((w.alloc (.cells #[.int .i64 f, .int .i64 t] 34)).alloc (.cells #[.slice none 0 0] 28)) (.cells #[.func (.func 56) #[] #[.pointer (some ⟨w.heap.size, 0, none⟩), .pointer (some ⟨w.heap.size + 1 + 1, 0, none⟩), .pointer (some ⟨w.heap.size + 1, 0, none⟩)]] 98)
  rw [h] at this
  exact this
theorem meetsL_length (L : List It) (f t : Int) : (meetsL L f t).length ≤ L.length := by
  unfold meetsL
  split
  · rw [sortI_length, List.length_map]; exact List.length_filter_le _ _
  · simp

set_option maxRecDepth 100000 in
set_option maxHeartbeats 4000000 in
theorem tmeets_any (f t : Int) (w : World) (tb : Nat) (L : List It) (T : BT Nd) (mb : Option Nat) (h : TreeAt w tb L T mb) (hl : L.length < 4294967296) :
    Calls Tryd.prog 15 #[.pointer (some ⟨tb, 0, none⟩), .agg #[.int .i64 f, .int .i64 t]] w fun e w' => ∃ v, e = .returned v ∧ w'.ownsRow w.heap.size 3 1 v (meetsL L f t).length ((meetsL L f t).map (Value.int .i64)) ∧ Below w.heap.size w w' := by
  have hmf : ∀ (fn : Fn) (first cap : Array Value) (w : World), (Instr.makeFunc fn first cap).run Tryd.prog w = .ok (.func fn first cap) w := fun _ _ _ _ => rfl
  obtain ⟨tp, et⟩ := ptr_some T
  have htb : tb < w.heap.size := h.lt tb (Or.inl rfl)
  have hc := h.cells
  rw [et] at hc
  have ET := Lib.hid et
  have HH := Lib.hid h
  have HC := Lib.hid hc
  have hR := fun W => right_any f t W
  have hST := meet_start w f t
  obtain ⟨W0, hW0⟩ : ∃ W0, W0 = (((w.alloc (.cells #[.int .i64 f, .int .i64 t] 34)).alloc (.cells #[.slice none 0 0] 28)).alloc (.cells #[.func (.func 56) #[] #[.pointer (some ⟨w.heap.size, 0, none⟩), .pointer (some ⟨w.heap.size + 1 + 1, 0, none⟩), .pointer (some ⟨w.heap.size + 1, 0, none⟩)]] 98)) := ⟨_, rfl⟩
  rw [← hW0] at hST
  have hB0 : Below w.heap.size w W0 := by rw [hW0]; exact (((Below.refl _ w).alloc (Nat.le_refl _) _).alloc (by simp) _).alloc (by simp; omega) _
  have hs0 : W0.heap.size = w.heap.size + 1 + 1 + 1 := by rw [hW0]; simp
  have HW0 := Lib.hid hW0
  have HST := Lib.hid hST
  have HB0 := Lib.hid hB0
  have HS0 := Lib.hid hs0
  clear et h hc hST hB0 hW0 hs0
  cases hr : rightB f t
  · rw [hr] at hR
    have hm : meetsL L f t = [] := by unfold meetsL; rw [if_neg (by simp [hr])]
    have HM := Lib.hid hm
    clear hr hm
    go_enter Tryd.func15, Tryd.ntmps15
    go_wp2_with fail
    rw [← HW0.out]
    refine (hR _).mono ?_
    rintro e w1 ⟨rfl, b1⟩
    have M1 : MeetW (w.heap.size + 1 + 1 + 1) w.heap.size (w.heap.size + 1 + 1) (w.heap.size + 1) f t (.slice none 0 0) [] w1 := HST.out.frame (Fr.new b1) ((Fr.new (F := fun _ => False) b1).keeps HST.out.ho (fun e => e)) (World.ownsRow_nil _ _ _ _)
    have B1 := HB0.out.trans (b1.mono (by rw [HS0.out]; omega))
    have HB1 := Lib.hid B1
    have o0 := cell_of_one M1.ho
    have HM1 := Lib.hid M1
    have hbs := M1.hb
    clear b1 B1 M1 hR hmf
    go_wp2_with fail
    refine (sortSlice_own (w.heap.size + 1 + 1 + 1) [] (.slice none 0 0) w1 (World.ownsRow_nil _ _ _ _) (by omega) (by simp)).mono ?_
    rintro e w2 ⟨rfl, own2, b2⟩
    have o2 := (b2.cell (p := ⟨w.heap.size + 1, 0, none⟩) (by simp)).trans o0
    have HB2 := Lib.hid (HB1.out.trans (b2.mono (by omega)))
    clear own2 b2 o0
    go_wp2_with fail
    go_ret
    refine ⟨_, rfl, ?_, HB2.out⟩
    rw [HM.out]
    exact World.ownsRow_nil _ _ _ _
  · rw [hr] at hR
    have hm : meetsL L f t = sortI (findT f t T) := by
      unfold meetsL
      rw [if_pos hr, find_spec f t HH.out.fit HH.out.srt]
      exact (sortI_perm ((HH.out.perm.filter _).map _)).symm
    have hlen : (findT f t T).length < 4294967296 := by have := find_le f t T; have := HH.out.perm.length_eq; omega
    have hmt : ∀ W, MeetW (w.heap.size + 1 + 1 + 1) w.heap.size (w.heap.size + 1 + 1) (w.heap.size + 1) f t (.slice none 0 0) [] W → treeIn W T →
        Calls Tryd.prog 56 #[.pointer tp, .pointer (some ⟨w.heap.size, 0, none⟩), .pointer (some ⟨w.heap.size + 1 + 1, 0, none⟩), .pointer (some ⟨w.heap.size + 1, 0, none⟩)] W (Met (w.heap.size + 1 + 1 + 1) w.heap.size (w.heap.size + 1 + 1) (w.heap.size + 1) f t (findT f t T) W) := fun W h1 h2 => by
      rw [← ET.out]
      exact meets1_any _ _ _ _ f t T _ [] W h1 h2 (fun k hk => by have := HH.out.lt k (Or.inr (Or.inl hk)); omega) HH.out.fit (by have := HH.out.perm.length_eq; simp; omega)
    have HM := Lib.hid hm
    have HMT := Lib.hid hmt
    clear hr hm hmt
    go_enter Tryd.func15, Tryd.ntmps15
    go_wp2_with fail
    rw [← HW0.out]
    refine (hR _).mono ?_
    rintro e w1 ⟨rfl, b1⟩
    have M1 : MeetW (w.heap.size + 1 + 1 + 1) w.heap.size (w.heap.size + 1 + 1) (w.heap.size + 1) f t (.slice none 0 0) [] w1 := HST.out.frame (Fr.new b1) ((Fr.new (F := fun _ => False) b1).keeps HST.out.ho (fun e => e)) (World.ownsRow_nil _ _ _ _)
    have B1 := HB0.out.trans (b1.mono (by rw [HS0.out]; omega))
    have HB1 := Lib.hid B1
    have k0 := cell_of_one M1.hk
    have hc1 := (B1.block tb htb).trans HC.out
    have HC1 := Lib.hid hc1
    obtain ⟨c0, _, _, _⟩ := tree_cells hc1
    have T1 := (HH.out.below B1).tin
    clear b1 B1 hR hmf hc1
    go_wp2_with fail
    go_region_held3 (fun W => W.cell? ⟨w.heap.size + 1 + 1, 0, none⟩ = some (.func (.func 56) #[] #[.pointer (some ⟨w.heap.size, 0, none⟩), .pointer (some ⟨w.heap.size + 1 + 1, 0, none⟩), .pointer (some ⟨w.heap.size + 1, 0, none⟩)]) ∧ W.cell? ⟨tb, 0, none⟩ = some (.pointer tp))
      (first | exact ⟨k0, c0⟩ | exact hS3)
      ((go_at_call 56; refine (HMT.out _ (by exact M1.drew) (by exact T1)).mono ?_; rintro e w3 ⟨rfl, ⟨v3, M3⟩, F3⟩; have hc3 := F3.keeps HC1.out (fun e => by omega); have hS3 : w3.cell? ⟨w.heap.size + 1 + 1, 0, none⟩ = some (.func (.func 56) #[] #[.pointer (some ⟨w.heap.size, 0, none⟩), .pointer (some ⟨w.heap.size + 1 + 1, 0, none⟩), .pointer (some ⟨w.heap.size + 1, 0, none⟩)]) ∧ w3.cell? ⟨tb, 0, none⟩ = some (.pointer tp) := ⟨cell_of_one M3.hk, block_cell hc3 0⟩))
    have o0 := cell_of_one M3.ho
    have HM3 := Lib.hid M3
    have hbs := M3.hb
    have HB3 := Lib.hid (HB1.out.drew.trans (F3.below (B := w.heap.size) (fun k _ e => by rcases e with e | e <;> omega) (by have := M1.hb; simp; omega)))
    have hw3 : w.heap.size + 1 < w3.heap.size := by omega
    clear M3 hS3 F3 M1 k0 c0 T1 hc3
    go_wp2_with fail
    refine (sortSlice_own (w.heap.size + 1 + 1 + 1) (findT f t T) v3 w3 HM3.out.own hbs (by omega)).mono ?_
    rintro e w4 ⟨rfl, own4, b4⟩
    have o4 := (b4.cell (p := ⟨w.heap.size + 1, 0, none⟩) (by simp)).trans o0
    have HB4 := Lib.hid (HB3.out.trans (b4.mono (by omega)))
    have HO4 := Lib.hid own4
    clear own4 b4 o0
    go_wp2_with fail
    go_ret
    refine ⟨_, rfl, ?_, HB4.out⟩
    rw [HM.out, sortI_length]
    exact ownsRow_base HO4.out (by omega)

def atL (L : List It) (x : Int) : List Int := if -1099511627776 ≤ x ∧ x < 1099511627776 then meetsL L x (x + 1) else []
theorem atL_length (L : List It) (x : Int) : (atL L x).length ≤ L.length := by
  unfold atL
  split
  · exact meetsL_length _ _ _
  · simp
set_option maxRecDepth 100000 in
set_option maxHeartbeats 1000000 in
theorem tat_any (x : Int) (w : World) (tb : Nat) (L : List It) (T : BT Nd) (mb : Option Nat) (h : TreeAt w tb L T mb) (hl : L.length < 4294967296) :
    Calls Tryd.prog 17 #[.pointer (some ⟨tb, 0, none⟩), .int .i64 x] w fun e w' => ∃ v, e = .returned v ∧ w'.ownsRow w.heap.size 3 1 v (atL L x).length ((atL L x).map (Value.int .i64)) ∧ Below w.heap.size w w' := by
  have HH := Lib.hid h
  clear h
  by_cases h1 : -1099511627776 ≤ x
  · by_cases h2 : x < 1099511627776
    · have e : atL L x = meetsL L x (x + 1) := by unfold atL; rw [if_pos ⟨h1, h2⟩]
      have HE := Lib.hid e
      clear e
      go_enter Tryd.func17, Tryd.ntmps17
      go_wp2_with fail
      refine (tmeets_any x (x + 1) w tb L T mb HH.out hl).mono ?_
      rintro e w1 ⟨v, rfl, own1, b1⟩
      have HO := Lib.hid own1
      clear own1
      go_wp2_with fail
      go_ret
      refine ⟨_, rfl, ?_, b1⟩
      rw [HE.out]
      exact HO.out
    · have e : atL L x = [] := by unfold atL; rw [if_neg (fun c => h2 c.2)]
      have HE := Lib.hid e
      clear e
      go_enter Tryd.func17, Tryd.ntmps17
      go_wp2_with fail
      go_ret
      refine ⟨_, rfl, ?_, Below.refl _ _⟩
      rw [HE.out]
      exact World.ownsRow_nil _ _ _ _
  · have e : atL L x = [] := by unfold atL; rw [if_neg (fun c => h1 c.1)]
    have HE := Lib.hid e
    clear e
    go_enter Tryd.func17, Tryd.ntmps17
    go_wp2_with fail
    go_ret
    refine ⟨_, rfl, ?_, Below.refl _ _⟩
    rw [HE.out]
    exact World.ownsRow_nil _ _ _ _
end Go.Proofs.YtgbbldbkkmjedaaDoor
