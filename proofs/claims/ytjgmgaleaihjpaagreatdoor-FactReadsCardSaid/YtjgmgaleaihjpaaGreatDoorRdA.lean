/- What the document's Read calls: Number, the closure that numbers a word, plain. The conditions: the library's tables and variables that they read are as its own text lays them. -/
import Derived.Test.YtjgmgaleaihjpaaGreatDoorFcR
import Derived.Lib.ParseIntBTie
namespace Go.Proofs.YtjgmgaleaihjpaaGreatDoor
open Go.RowKit Go.Shelf

theorem atoi_bounds {l : List UInt8} {v : Int} (h : Lib.atoiAll l = .ok v) : -9223372036854775808 ≤ v ∧ v ≤ 9223372036854775807 := by
  unfold Lib.atoiAll at h
  split at h
  · cases h
  · simp only at h
    split at h
    · cases h
    · cases h
    · split at h
      · cases h
      · split at h
        · cases h
        · rename_i u _ h1 h2
          simp only [Lib.NumEnd.ok.injEq] at h
          subst h
          split
          · rename_i hn
            have : ¬ 9223372036854775808 < u := fun e => h2 ⟨hn, e⟩
            omega
          · rename_i hn
            have : ¬ 9223372036854775808 ≤ u := fun e => h1 ⟨hn, e⟩
            omega

theorem formatInt_any (n : Int) (h0 : -9223372036854775808 ≤ n) (h1 : n ≤ 9223372036854775807) (w : World) (ht : PowTab w) : Calls Tryz.prog 20 #[.int .i64 n, .int .i64 10] w fun e w' => e = .returned (.string ⟨(Lib.itoa n).toArray⟩) ∧ Below w.heap.size w w' :=
  (Tryz.strconv_FormatInt_10 n h0 h1 w ht).mono fun _ _ ⟨h1, k, os, h2⟩ => ⟨h1, by rw [h2]; exact Lib.below_grow _ w (Nat.le_refl _) k os⟩
set_option maxHeartbeats 1000000 in
theorem rnumber_any (s : ByteArray) (w : World) (hs : s.size ≤ 100000) (ht : PowTab w) (hv : NumVars w) :
    Calls Tryz.prog 10 #[.string s] w fun e w' => (∃ b, e = .returned (.tuple #[.int .i64 (numR s.data.toList), .bool b])) ∧ Below w.heap.size w w' := by
  obtain ⟨⟨t, p, h1⟩, ⟨t', p', h2⟩, _⟩ := hv
  have HT := Lib.hid ht
  clear ht
  cases h : Lib.atoiAll s.data.toList
  · rename_i v
    obtain ⟨v0, v1⟩ := atoi_bounds h
    have HP := Lib.hid (Tryz.strconv_ParseInt_10_at64_ok s (by omega) v (by rw [Lib.parseIntB_64]; exact h) w)
    have HF := Lib.hid fun X (hX : PowTab X) => formatInt_any v v0 v1 X hX
    have HH := Lib.hid h
    clear h h1 h2
    by_cases he : Lib.itoa v = s.data.toList
    · have hr : numR s.data.toList = v := by unfold numR; rw [HH.out]; simp [he]
      have hne : (!Lib.itoa v == s.toList) = false := by rw [ByteArray.toList_eq, he]; simp
      clear he
      rw [hr]
      clear hr
      go_enter Tryz.func10, Tryz.ntmps10
      go_wp2_with fail
      refine HP.out.mono ?_
      rintro e w1 ⟨rfl, hw⟩
      have b1 : Below w.heap.size w w1 := by
        rcases hw with rfl | ⟨t, rfl⟩
        · exact Below.refl _ _
        · exact Lib.bytesWorld_below _ _ _
      have HB := Lib.hid b1
      clear hw b1
      go_wp2_with fail
      refine (HF.out w1 (HT.out.below HB.out)).mono ?_
      rintro e w2 ⟨rfl, b2⟩
      have HB2 := Lib.hid (below_trans HB.out HB.out.size b2)
      clear b2
      go_wp2_with fail
      go_ret2
      exact ⟨⟨_, rfl⟩, HB2.out⟩
    · have hr : numR s.data.toList = 0 := by unfold numR; rw [HH.out]; simp [he]
      have hne : (!Lib.itoa v == s.toList) = true := by rw [ByteArray.toList_eq]; simp [he]
      clear he
      rw [hr]
      clear hr
      go_enter Tryz.func10, Tryz.ntmps10
      go_wp2_with fail
      refine HP.out.mono ?_
      rintro e w1 ⟨rfl, hw⟩
      have b1 : Below w.heap.size w w1 := by
        rcases hw with rfl | ⟨t, rfl⟩
        · exact Below.refl _ _
        · exact Lib.bytesWorld_below _ _ _
      have HB := Lib.hid b1
      clear hw b1
      go_wp2_with fail
      refine (HF.out w1 (HT.out.below HB.out)).mono ?_
      rintro e w2 ⟨rfl, b2⟩
      have HB2 := Lib.hid (below_trans HB.out HB.out.size b2)
      clear b2
      go_wp2_with fail
      go_ret2
      exact ⟨⟨_, rfl⟩, HB2.out⟩
  · skip
    have hr : numR s.data.toList = 0 := by unfold numR; rw [h]
    have HP := Lib.hid (Tryz.strconv_ParseInt_10_at64_syntax s (by omega) (by rw [Lib.parseIntB_64]; exact h) _ w h1 (.inr ⟨_, _, rfl⟩))
    clear h h1 h2
    rw [hr]
    clear hr
    go_enter Tryz.func10, Tryz.ntmps10
    go_wp2_with fail
    refine HP.out.mono ?_
    rintro e w1 ⟨N, rfl, _, _, b1⟩
    have HB := Lib.hid b1
    clear b1
    go_wp2_with fail
    go_ret2
    exact ⟨⟨_, rfl⟩, HB.out⟩
  · skip
    have hr : numR s.data.toList = 0 := by unfold numR; rw [h]
    have HP := Lib.hid (Tryz.strconv_ParseInt_10_at64_range s (by omega) (by rw [Lib.parseIntB_64]; exact h) _ w h2 (.inr ⟨_, _, rfl⟩))
    clear h h1 h2
    rw [hr]
    clear hr
    go_enter Tryz.func10, Tryz.ntmps10
    go_wp2_with fail
    refine HP.out.mono ?_
    rintro e w1 ⟨N, rfl, _, _, b1⟩
    have HB := Lib.hid b1
    clear b1
    go_wp2_with fail
    go_ret2
    exact ⟨⟨_, rfl⟩, HB.out⟩

theorem rplain_any (s : ByteArray) (w : World) : Calls Tryz.prog 11 #[.string s] w fun e w' => e = .returned (.string (undash s.data.toList)) ∧ w' = w := by
  by_cases h : s.data.toList = [45]
  · have t : (s.toList == [45]) = true := by rw [ByteArray.toList_eq]; simp [h]
    rw [undash_yes h]
    go_enter Tryz.func11, Tryz.ntmps11
    go_wp2
    go_ret
    exact ⟨rfl, rfl⟩
  · have t : (s.toList == [45]) = false := by rw [ByteArray.toList_eq]; simp [h]
    rw [undash_no h]
    go_enter Tryz.func11, Tryz.ntmps11
    go_wp2
    go_ret
    exact ⟨rfl, rfl⟩

/-- The closure: the number that a word spells. -/
theorem rnum_any (bx g i n c : Nat) (y : ByteArray) (w : World) (hbx : w.cell? ⟨bx, 0, none⟩ = some (.slice (some ⟨g, 0, none⟩) n c)) (hi : i < n) (_hn : n ≤ 4294967296) (hy : w.cell? ⟨g, i, none⟩ = some (.string y)) (hs : y.size ≤ 100000) (ht : PowTab w) (hv : NumVars w) :
    Calls Tryz.prog 9 #[.int .i64 i, .pointer (some ⟨bx, 0, none⟩)] w fun e w' => e = .returned (.int .i64 (numR y.data.toList)) ∧ Below w.heap.size w w' := by
  have HN := Lib.hid (rnumber_any y w hs ht hv)
  clear ht hv
  go_enter Tryz.func9, Tryz.ntmps9
  go_wp2_with (go_at_call 10; refine HN.out.mono ?_; rintro e w1 ⟨⟨b, rfl⟩, b1⟩)
  go_ret
  exact ⟨rfl, b1⟩
end Go.Proofs.YtjgmgaleaihjpaaGreatDoor
