/- FactBack's own walk: whatever comes in, the call returns true. The conditions: the library's tables and variables that its row lists hold what the library's text lays. -/
import Derived.Test.YtjgmgaleaihjpaaDoorFcR
import Derived.Test.YtjgmgaleaihjpaaDoorFcS
import Derived.Test.YtjgmgaleaihjpaaDoorCls
namespace Go.Proofs.YtjgmgaleaihjpaaDoor
open Go.RowKit

theorem cell_over {w : World} {b k : Nat} {v : Value} (o : Obj) (h : w.cell? ⟨b, k, none⟩ = some v) : (w.alloc o).cell? ⟨b, k, none⟩ = some v := below_cell ((Below.refl w.heap.size w).alloc (Nat.le_refl _) o) (World.block_lt_of_cell? w _ h) h
theorem cell_fresh (w : World) {n : Nat} (hn : w.heap.size = n) {cs : Array Value} {t : TypeId} {k : Nat} {v : Value} (h : cs[k]? = some v) : (w.alloc (.cells cs t)).cell? ⟨n, k, none⟩ = some v := by subst hn; simp [h]
/-- The one change that is a fact. -/
def wop : OpP := ⟨⟨2, 1, ⟨#[107, 110, 111, 119, 115]⟩, 2⟩, -5, 7, ⟨#[119, 101, 108, 108]⟩⟩
theorem wop_ok : opB wop = true := by decide +kernel
theorem wop_text : writeT [wop] = [50, 32, 49, 32, 107, 110, 111, 119, 115, 32, 50, 32, 45, 53, 32, 55, 32, 119, 101, 108, 108] := by decide +kernel
theorem opsAt_new (V : World) (o : OpP) {cs : Array Value} {t : TypeId} (h : cs.toList = opCells o) : opsAt (V.alloc (.cells cs t)) (some ⟨V.heap.size, 0, none⟩) [o] := by
  intro i p hi
  match i, hi with
  | 0, hi =>
    simp at hi; subst hi
    refine ⟨V.heap.size, 0, rfl, fun j u hu => ?_⟩
    have : cs[j]? = some u := by rw [← Array.getElem?_toList, h]; exact hu
    simp [this]
set_option maxHeartbeats 1000000 in
theorem written_any (w : World) (ht : PowTab w) : Calls Tryd.prog 18 #[] w fun e w' => e = .returned (.bool true) ∧ Below w.heap.size w w' := by
  obtain ⟨W, hW⟩ : ∃ W, W = w.alloc (.cells #[.int .i64 2, .int .i64 1, .string ⟨#[107, 110, 111, 119, 115]⟩, .int .i64 2, .int .i64 (-5), .int .i64 7, .string ⟨#[119, 101, 108, 108]⟩] 44) := ⟨_, rfl⟩
  have bA : Below w.heap.size w W := by rw [hW]; exact (Below.refl _ w).alloc (Nat.le_refl _) _
  have ho : opsAt W (some ⟨w.heap.size, 0, none⟩) [wop] := by rw [hW]; exact opsAt_new w wop rfl
  have hF := fwrite_any (some ⟨w.heap.size, 0, none⟩) 1 [wop] W ho (by decide) (fun o h => by simp at h; subst h; decide) (ht.below bA)
  have hg := writeR_good (l := [wop]) (by decide) (by simp [wop_ok])
  rw [hg, wop_text] at hF
  have HF := Lib.hid hF
  have HW := Lib.hid hW
  have HB := Lib.hid bA
  clear hF hW bA ho hg
  go_enter Tryd.func18, Tryd.ntmps18
  go_wp2_with fail
  rw [← HW.out]
  refine HF.out.mono ?_
  rintro e w1 ⟨⟨v, rfl, _, (⟨rfl, _⟩ | ⟨_, h0⟩)⟩, hb⟩
  · go_wp2
    go_ret
    exact ⟨rfl, below_step HB.out hb⟩
  · exact absurd rfl h0
theorem cmp_le (x y : KeyP) : -1 ≤ keyCmp x y ∧ keyCmp x y ≤ 1 := by
  rw [cmp_less]; split
  · omega
  · split <;> omega
set_option maxRecDepth 100000 in
set_option maxHeartbeats 4000000 in
theorem factBack_walk (ao : Option Addr) (c : Nat) (l : List OpP) (s : ByteArray) (k1 a1 b1 k2 a2 b2 k3 a3 b3 : Int) (s1 s2 s3 : ByteArray) (w : World) (ht : PowTab w) (hv : NumVars w) (hl : opsAt w ao l) (hm : l.length ≤ maxLen) (hs : s.size ≤ maxLen) (hs1 : s1.size ≤ maxLen) (hs2 : s2.size ≤ maxLen) (hs3 : s3.size ≤ maxLen) (hsum : s1.size + s2.size + s3.size ≤ maxLen) :
    Calls Tryd.prog 4 #[.slice ao l.length c, .string s, .agg #[.int .i64 k1, .int .i64 a1, .string s1, .int .i64 b1], .agg #[.int .i64 k2, .int .i64 a2, .string s2, .int .i64 b2], .agg #[.int .i64 k3, .int .i64 a3, .string s3, .int .i64 b3]] w fun e w' => e = .returned (.bool true) ∧ Below w.heap.size w w' := by
  unfold maxLen at hs hs1 hs2 hs3 hsum
  obtain ⟨W, hW⟩ : ∃ W, W = ((w.alloc (.cells #[.int .i64 k1, .int .i64 a1, .string s1, .int .i64 b1] 24)).alloc (.cells #[.int .i64 k2, .int .i64 a2, .string s2, .int .i64 b2] 24)).alloc (.cells #[.int .i64 k3, .int .i64 a3, .string s3, .int .i64 b3] 24) := ⟨_, rfl⟩
  have bA : Below w.heap.size w W := by rw [hW]; exact (((Below.refl _ w).alloc (Nat.le_refl _) _).alloc (by simp) _).alloc (by simp; omega) _
  obtain ⟨kb, hkb⟩ : ∃ kb, kb = w.heap.size := ⟨_, rfl⟩
  have szW : W.heap.size = kb + 3 := by rw [hW, hkb]; simp
  have c10 : W.cell? ⟨kb, 0, none⟩ = some (.int .i64 k1) := by rw [hW, hkb]; exact cell_over _ (cell_over _ (cell_fresh _ rfl rfl))
  have c11 : W.cell? ⟨kb, 1, none⟩ = some (.int .i64 a1) := by rw [hW, hkb]; exact cell_over _ (cell_over _ (cell_fresh _ rfl rfl))
  have c12 : W.cell? ⟨kb, 2, none⟩ = some (.string s1) := by rw [hW, hkb]; exact cell_over _ (cell_over _ (cell_fresh _ rfl rfl))
  have c13 : W.cell? ⟨kb, 3, none⟩ = some (.int .i64 b1) := by rw [hW, hkb]; exact cell_over _ (cell_over _ (cell_fresh _ rfl rfl))
  have c20 : W.cell? ⟨kb + 1, 0, none⟩ = some (.int .i64 k2) := by rw [hW, hkb]; exact cell_over _ (cell_fresh _ (by rw [World.size_alloc]) rfl)
  have c21 : W.cell? ⟨kb + 1, 1, none⟩ = some (.int .i64 a2) := by rw [hW, hkb]; exact cell_over _ (cell_fresh _ (by rw [World.size_alloc]) rfl)
  have c22 : W.cell? ⟨kb + 1, 2, none⟩ = some (.string s2) := by rw [hW, hkb]; exact cell_over _ (cell_fresh _ (by rw [World.size_alloc]) rfl)
  have c23 : W.cell? ⟨kb + 1, 3, none⟩ = some (.int .i64 b2) := by rw [hW, hkb]; exact cell_over _ (cell_fresh _ (by rw [World.size_alloc]) rfl)
  have c30 : W.cell? ⟨kb + 1 + 1, 0, none⟩ = some (.int .i64 k3) := by rw [hW, hkb]; exact cell_fresh _ (by rw [World.size_alloc, World.size_alloc]) rfl
  have c31 : W.cell? ⟨kb + 1 + 1, 1, none⟩ = some (.int .i64 a3) := by rw [hW, hkb]; exact cell_fresh _ (by rw [World.size_alloc, World.size_alloc]) rfl
  have c32 : W.cell? ⟨kb + 1 + 1, 2, none⟩ = some (.string s3) := by rw [hW, hkb]; exact cell_fresh _ (by rw [World.size_alloc, World.size_alloc]) rfl
  have c33 : W.cell? ⟨kb + 1 + 1, 3, none⟩ = some (.int .i64 b3) := by rw [hW, hkb]; exact cell_fresh _ (by rw [World.size_alloc, World.size_alloc]) rfl
  have HW := Lib.hid hW
  have HB := Lib.hid bA
  have HKB := Lib.hid hkb
  have HS := Lib.hid (kshort_any ao c l W (hl.below bA) hm)
  have HL := Lib.hid (hl.below bA)
  have HT := Lib.hid (ht.below bA)
  have HV := Lib.hid (hv.below bA)
  clear hW bA hl ht hv hkb
  cases hsh : shortB l
  · rw [hsh] at HS
    go_enter Tryd.func4, Tryd.ntmps4
    go_wp2_with fail
    rw [← HW.out, ← HKB.out]
    go_wp2_with (go_at_call 17; refine HS.out.mono ?_; rintro e w1 ⟨rfl, rfl⟩)
    go_ret
    exact ⟨rfl, HB.out⟩
  rw [hsh] at HS
  by_cases h800 : 800 < s.size
  · skip
    go_enter Tryd.func4, Tryd.ntmps4
    go_wp2_with fail
    rw [← HW.out, ← HKB.out]
    go_wp2_with (go_at_call 17; refine HS.out.mono ?_; rintro e w1 ⟨rfl, rfl⟩)
    go_ret
    exact ⟨rfl, HB.out⟩
  by_cases h180 : 180 < s1.size + s2.size + s3.size
  · have h180' : (180 : Int) < (s1.size : Int) + (s2.size : Int) + (s3.size : Int) := by omega
    go_enter Tryd.func4, Tryd.ntmps4
    go_wp2_with fail
    rw [← HW.out, ← HKB.out]
    go_wp2_with (go_at_call 17; refine HS.out.mono ?_; rintro e w1 ⟨rfl, rfl⟩)
    go_ret
    exact ⟨rfl, HB.out⟩
  have h180' : ¬ (180 : Int) < (s1.size : Int) + (s2.size : Int) + (s3.size : Int) := by omega
  have h180'' : (s1.size : Int) + (s2.size : Int) + (s3.size : Int) ≤ 180 := by omega
  obtain ⟨h20, hsz⟩ := shortB_spec hsh
  have hsz' : ∀ o ∈ l, o.key.word.size ≤ 100000 ∧ o.value.size ≤ 100000 := fun o ho => by
    have := hsz o ho
    omega
  have HSZ := Lib.hid hsz'
  clear hsz'
  clear hsz hsh
  have WR := Lib.hid fun X (hX : Below W.heap.size W X) => written_any X (HT.out.below hX)
  have FW := Lib.hid fun X (hX : Below W.heap.size W X) => fwrite_any ao c l X (HL.out.below hX) hm HSZ.out (HT.out.below hX)
  have FR := Lib.hid fun X (hX : Below W.heap.size W X) => fread_any s X (by omega) (HT.out.below hX) (HV.out.below hX)
  have CC := Lib.hid fun x y z x' y' z' t t' X => fcmp_any x y z x' y' z' t t' X
  have LW := Lib.hid (cmp_laws ⟨k1, a1, s1, b1⟩ ⟨k2, a2, s2, b2⟩ ⟨k3, a3, s3, b3⟩)
  have EQ := Lib.hid (keyEqB_iff k1 a1 b1 k2 a2 b2 s1 s2)
  go_enter Tryd.func4, Tryd.ntmps4
  go_wp2_with fail
  rw [← HW.out, ← HKB.out]
  go_wp2_with (go_at_call 17; refine HS.out.mono ?_; rintro e w1 ⟨rfl, rfl⟩)
  refine (WR.out W (Below.refl _ _)).mono ?_
  rintro e w1 ⟨rfl, b1⟩
  go_wp2_with fail
  refine (FW.out w1 b1).mono ?_
  rintro e w2 ⟨⟨v, rfl, _, hn⟩, b2⟩
  have B2 := Lib.hid (below_step b1 b2)
  clear b1 b2
  cases hok : lenB l && l.all opB
  · have hne0 : (writeR l).2.1 ≠ 0 := by
      unfold writeR
      cases h1 : lenB l
      · show (4 : Int) ≠ 0; decide
      · rw [h1, Bool.true_and] at hok; rw [hok]; show (1 : Int) ≠ 0; decide
    rcases hn with ⟨rfl, h0⟩ | ⟨⟨tt, pp, rfl⟩, _⟩
    · exact absurd h0 hne0
    clear hne0 hok
    go_wp2_with fail
    refine (FR.out _ B2.out).mono ?_
    rintro e w4 ⟨(⟨L, ao', cap', rfl, hr, hops⟩ | ⟨rfl, hr⟩), b4⟩
    · have hL := (readF_iff _ _).1 hr
      rw [okT_iff] at hL
      obtain ⟨hL1, hL2, hL3⟩ := hL
      have B4 := Lib.hid (below_step B2.out b4)
      have BX := Lib.hid B4.out
      have HO := Lib.hid hops
      have hF := fwrite_any ao' cap' L w4 hops (by unfold maxLen; omega) (fun o ho => by
        have h := List.all_eq_true.1 hL2 o ho
        have h1 := word_size (key_word (op_key h))
        have h2 := word_size (op_value h)
        omega) (HT.out.below B4.out)
      rw [writeR_good (by unfold lenB; simpa using hL1) hL2] at hF
      have HF := Lib.hid hF
      have hne : (!writeT L == s.toList) = false := by rw [ByteArray.toList_eq, hL3]; simp
      clear hF hops b4 hr hL2 hL3
      go_wp2_with fail
      refine HF.out.mono ?_
      rintro e w5 ⟨⟨v, rfl, _, (⟨rfl, _⟩ | ⟨_, h0⟩)⟩, b5⟩
      · have B2 := Lib.hid (below_step B4.out b5)
        clear b5
        simp only
        go_wp2_with fail
        have c10 := below_cell B2.out (by omega) c10
        have c11 := below_cell B2.out (by omega) c11
        have c12 := below_cell B2.out (by omega) c12
        have c13 := below_cell B2.out (by omega) c13
        have c20 := below_cell B2.out (by omega) c20
        have c21 := below_cell B2.out (by omega) c21
        have c22 := below_cell B2.out (by omega) c22
        have c23 := below_cell B2.out (by omega) c23
        have c30 := below_cell B2.out (by omega) c30
        have c31 := below_cell B2.out (by omega) c31
        have c32 := below_cell B2.out (by omega) c32
        have c33 := below_cell B2.out (by omega) c33
        refine wp_region_in (S := Bel w5) (by kernel_rfl) (by kernel_rfl) (bel_drew (Below.refl _ _)) (fun hne => ?_)
        have x10 : ∀ X : InC (Bel w5), X.w.cell? ⟨kb, 0, none⟩ = some (.int .i64 k1) := fun X => X.cell c10
        have x11 : ∀ X : InC (Bel w5), X.w.cell? ⟨kb, 1, none⟩ = some (.int .i64 a1) := fun X => X.cell c11
        have x12 : ∀ X : InC (Bel w5), X.w.cell? ⟨kb, 2, none⟩ = some (.string s1) := fun X => X.cell c12
        have x13 : ∀ X : InC (Bel w5), X.w.cell? ⟨kb, 3, none⟩ = some (.int .i64 b1) := fun X => X.cell c13
        have x20 : ∀ X : InC (Bel w5), X.w.cell? ⟨kb + 1, 0, none⟩ = some (.int .i64 k2) := fun X => X.cell c20
        have x21 : ∀ X : InC (Bel w5), X.w.cell? ⟨kb + 1, 1, none⟩ = some (.int .i64 a2) := fun X => X.cell c21
        have x22 : ∀ X : InC (Bel w5), X.w.cell? ⟨kb + 1, 2, none⟩ = some (.string s2) := fun X => X.cell c22
        have x23 : ∀ X : InC (Bel w5), X.w.cell? ⟨kb + 1, 3, none⟩ = some (.int .i64 b2) := fun X => X.cell c23
        have x30 : ∀ X : InC (Bel w5), X.w.cell? ⟨kb + 1 + 1, 0, none⟩ = some (.int .i64 k3) := fun X => X.cell c30
        have x31 : ∀ X : InC (Bel w5), X.w.cell? ⟨kb + 1 + 1, 1, none⟩ = some (.int .i64 a3) := fun X => X.cell c31
        have x32 : ∀ X : InC (Bel w5), X.w.cell? ⟨kb + 1 + 1, 2, none⟩ = some (.string s3) := fun X => X.cell c32
        have x33 : ∀ X : InC (Bel w5), X.w.cell? ⟨kb + 1 + 1, 3, none⟩ = some (.int .i64 b3) := fun X => X.cell c33
        repeat (go_big_quiet_step (first | (go_at_call 14; exact InC.call (CC.out _ _ _ _ _ _ _ _ _))))
        refine wpQuiet_nil ?_
        rintro _ ⟨X, rfl⟩
        have HX := Lib.hid (below_trans HB.out HB.out.size (below_trans B2.out B2.out.size X.ok))
        have y10 := x10 X
        have y11 := x11 X
        have y12 := x12 X
        have y13 := x13 X
        have y20 := x20 X
        have y21 := x21 X
        have y22 := x22 X
        have y23 := x23 X
        have y30 := x30 X
        have y31 := x31 X
        have y32 := x32 X
        have y33 := x33 X
        clear x10 x11 x12 x13 x20 x21 x22 x23 x30 x31 x32 x33
        obtain ⟨q1, q2, q3⟩ := LW.out
        have q2' : ((keyCmp ⟨k1, a1, s1, b1⟩ ⟨k2, a2, s2, b2⟩ == 0) == keyEqB k1 a1 b1 k2 a2 b2 s1 s2) = true := by rw [EQ.out, beq_iff_eq, Bool.eq_iff_iff]; simpa using q2
        have q4 := cmp_le ⟨k2, a2, s2, b2⟩ ⟨k1, a1, s1, b1⟩
        generalize keyCmp ⟨k1, a1, s1, b1⟩ ⟨k2, a2, s2, b2⟩ = z12 at *
        generalize hz21 : keyCmp ⟨k2, a2, s2, b2⟩ ⟨k1, a1, s1, b1⟩ = z21 at *
        generalize keyCmp ⟨k2, a2, s2, b2⟩ ⟨k3, a3, s3, b3⟩ = z23 at *
        generalize keyCmp ⟨k1, a1, s1, b1⟩ ⟨k3, a3, s3, b3⟩ = z13 at *
        have hc := CC.out k2 a2 b2 k1 a1 b1 s2 s1 X.w
        rw [hz21] at hc
        have HC := Lib.hid hc
        clear hc hz21 q2
        have qe : (z12 == -z21) = true := by simpa using q1
        obtain ⟨p1, p2⟩ := q4
        clear q1
        by_cases g1 : 0 < z12
        · have g1' : decide (0 < z12) = true := decide_eq_true g1
          go_wp2_with (go_at_call 14; refine HC.out.mono ?_; rintro e w9 ⟨rfl, b9⟩; have u10 := below_cell b9 (World.block_lt_of_cell? _ _ y10) y10; have u11 := below_cell b9 (World.block_lt_of_cell? _ _ y11) y11; have u12 := below_cell b9 (World.block_lt_of_cell? _ _ y12) y12; have u13 := below_cell b9 (World.block_lt_of_cell? _ _ y13) y13; have u20 := below_cell b9 (World.block_lt_of_cell? _ _ y20) y20; have u21 := below_cell b9 (World.block_lt_of_cell? _ _ y21) y21; have u22 := below_cell b9 (World.block_lt_of_cell? _ _ y22) y22; have u23 := below_cell b9 (World.block_lt_of_cell? _ _ y23) y23)
          go_ret
          exact ⟨rfl, below_trans HX.out HX.out.size b9⟩
        · by_cases g2 : 0 < z23
          · go_wp2_with (go_at_call 14; refine HC.out.mono ?_; rintro e w9 ⟨rfl, b9⟩; have u10 := below_cell b9 (World.block_lt_of_cell? _ _ y10) y10; have u11 := below_cell b9 (World.block_lt_of_cell? _ _ y11) y11; have u12 := below_cell b9 (World.block_lt_of_cell? _ _ y12) y12; have u13 := below_cell b9 (World.block_lt_of_cell? _ _ y13) y13; have u20 := below_cell b9 (World.block_lt_of_cell? _ _ y20) y20; have u21 := below_cell b9 (World.block_lt_of_cell? _ _ y21) y21; have u22 := below_cell b9 (World.block_lt_of_cell? _ _ y22) y22; have u23 := below_cell b9 (World.block_lt_of_cell? _ _ y23) y23)
            go_ret
            exact ⟨rfl, below_trans HX.out HX.out.size b9⟩
          · have g3 : z13 ≤ 0 := q3 (by omega) (by omega)
            go_wp2_with (go_at_call 14; refine HC.out.mono ?_; rintro e w9 ⟨rfl, b9⟩; have u10 := below_cell b9 (World.block_lt_of_cell? _ _ y10) y10; have u11 := below_cell b9 (World.block_lt_of_cell? _ _ y11) y11; have u12 := below_cell b9 (World.block_lt_of_cell? _ _ y12) y12; have u13 := below_cell b9 (World.block_lt_of_cell? _ _ y13) y13; have u20 := below_cell b9 (World.block_lt_of_cell? _ _ y20) y20; have u21 := below_cell b9 (World.block_lt_of_cell? _ _ y21) y21; have u22 := below_cell b9 (World.block_lt_of_cell? _ _ y22) y22; have u23 := below_cell b9 (World.block_lt_of_cell? _ _ y23) y23)
            go_ret
            exact ⟨rfl, below_trans HX.out HX.out.size b9⟩
      · exact absurd rfl h0
    · have B4 := Lib.hid (below_step B2.out b4)
      clear b4 hr
      go_wp2_with fail
      have B2 := B4
      have c10 := below_cell B2.out (by omega) c10
      have c11 := below_cell B2.out (by omega) c11
      have c12 := below_cell B2.out (by omega) c12
      have c13 := below_cell B2.out (by omega) c13
      have c20 := below_cell B2.out (by omega) c20
      have c21 := below_cell B2.out (by omega) c21
      have c22 := below_cell B2.out (by omega) c22
      have c23 := below_cell B2.out (by omega) c23
      have c30 := below_cell B2.out (by omega) c30
      have c31 := below_cell B2.out (by omega) c31
      have c32 := below_cell B2.out (by omega) c32
      have c33 := below_cell B2.out (by omega) c33
      refine wp_region_in (S := Bel w4) (by kernel_rfl) (by kernel_rfl) (bel_drew (Below.refl _ _)) (fun hne => ?_)
      have x10 : ∀ X : InC (Bel w4), X.w.cell? ⟨kb, 0, none⟩ = some (.int .i64 k1) := fun X => X.cell c10
      have x11 : ∀ X : InC (Bel w4), X.w.cell? ⟨kb, 1, none⟩ = some (.int .i64 a1) := fun X => X.cell c11
      have x12 : ∀ X : InC (Bel w4), X.w.cell? ⟨kb, 2, none⟩ = some (.string s1) := fun X => X.cell c12
      have x13 : ∀ X : InC (Bel w4), X.w.cell? ⟨kb, 3, none⟩ = some (.int .i64 b1) := fun X => X.cell c13
      have x20 : ∀ X : InC (Bel w4), X.w.cell? ⟨kb + 1, 0, none⟩ = some (.int .i64 k2) := fun X => X.cell c20
      have x21 : ∀ X : InC (Bel w4), X.w.cell? ⟨kb + 1, 1, none⟩ = some (.int .i64 a2) := fun X => X.cell c21
      have x22 : ∀ X : InC (Bel w4), X.w.cell? ⟨kb + 1, 2, none⟩ = some (.string s2) := fun X => X.cell c22
      have x23 : ∀ X : InC (Bel w4), X.w.cell? ⟨kb + 1, 3, none⟩ = some (.int .i64 b2) := fun X => X.cell c23
      have x30 : ∀ X : InC (Bel w4), X.w.cell? ⟨kb + 1 + 1, 0, none⟩ = some (.int .i64 k3) := fun X => X.cell c30
      have x31 : ∀ X : InC (Bel w4), X.w.cell? ⟨kb + 1 + 1, 1, none⟩ = some (.int .i64 a3) := fun X => X.cell c31
      have x32 : ∀ X : InC (Bel w4), X.w.cell? ⟨kb + 1 + 1, 2, none⟩ = some (.string s3) := fun X => X.cell c32
      have x33 : ∀ X : InC (Bel w4), X.w.cell? ⟨kb + 1 + 1, 3, none⟩ = some (.int .i64 b3) := fun X => X.cell c33
      repeat (go_big_quiet_step (first | (go_at_call 14; exact InC.call (CC.out _ _ _ _ _ _ _ _ _))))
      refine wpQuiet_nil ?_
      rintro _ ⟨X, rfl⟩
      have HX := Lib.hid (below_trans HB.out HB.out.size (below_trans B2.out B2.out.size X.ok))
      have y10 := x10 X
      have y11 := x11 X
      have y12 := x12 X
      have y13 := x13 X
      have y20 := x20 X
      have y21 := x21 X
      have y22 := x22 X
      have y23 := x23 X
      have y30 := x30 X
      have y31 := x31 X
      have y32 := x32 X
      have y33 := x33 X
      clear x10 x11 x12 x13 x20 x21 x22 x23 x30 x31 x32 x33
      obtain ⟨q1, q2, q3⟩ := LW.out
      have q2' : ((keyCmp ⟨k1, a1, s1, b1⟩ ⟨k2, a2, s2, b2⟩ == 0) == keyEqB k1 a1 b1 k2 a2 b2 s1 s2) = true := by rw [EQ.out, beq_iff_eq, Bool.eq_iff_iff]; simpa using q2
      have q4 := cmp_le ⟨k2, a2, s2, b2⟩ ⟨k1, a1, s1, b1⟩
      generalize keyCmp ⟨k1, a1, s1, b1⟩ ⟨k2, a2, s2, b2⟩ = z12 at *
      generalize hz21 : keyCmp ⟨k2, a2, s2, b2⟩ ⟨k1, a1, s1, b1⟩ = z21 at *
      generalize keyCmp ⟨k2, a2, s2, b2⟩ ⟨k3, a3, s3, b3⟩ = z23 at *
      generalize keyCmp ⟨k1, a1, s1, b1⟩ ⟨k3, a3, s3, b3⟩ = z13 at *
      have hc := CC.out k2 a2 b2 k1 a1 b1 s2 s1 X.w
      rw [hz21] at hc
      have HC := Lib.hid hc
      clear hc hz21 q2
      have qe : (z12 == -z21) = true := by simpa using q1
      obtain ⟨p1, p2⟩ := q4
      clear q1
      by_cases g1 : 0 < z12
      · have g1' : decide (0 < z12) = true := decide_eq_true g1
        go_wp2_with (go_at_call 14; refine HC.out.mono ?_; rintro e w9 ⟨rfl, b9⟩; have u10 := below_cell b9 (World.block_lt_of_cell? _ _ y10) y10; have u11 := below_cell b9 (World.block_lt_of_cell? _ _ y11) y11; have u12 := below_cell b9 (World.block_lt_of_cell? _ _ y12) y12; have u13 := below_cell b9 (World.block_lt_of_cell? _ _ y13) y13; have u20 := below_cell b9 (World.block_lt_of_cell? _ _ y20) y20; have u21 := below_cell b9 (World.block_lt_of_cell? _ _ y21) y21; have u22 := below_cell b9 (World.block_lt_of_cell? _ _ y22) y22; have u23 := below_cell b9 (World.block_lt_of_cell? _ _ y23) y23)
        go_ret
        exact ⟨rfl, below_trans HX.out HX.out.size b9⟩
      · by_cases g2 : 0 < z23
        · go_wp2_with (go_at_call 14; refine HC.out.mono ?_; rintro e w9 ⟨rfl, b9⟩; have u10 := below_cell b9 (World.block_lt_of_cell? _ _ y10) y10; have u11 := below_cell b9 (World.block_lt_of_cell? _ _ y11) y11; have u12 := below_cell b9 (World.block_lt_of_cell? _ _ y12) y12; have u13 := below_cell b9 (World.block_lt_of_cell? _ _ y13) y13; have u20 := below_cell b9 (World.block_lt_of_cell? _ _ y20) y20; have u21 := below_cell b9 (World.block_lt_of_cell? _ _ y21) y21; have u22 := below_cell b9 (World.block_lt_of_cell? _ _ y22) y22; have u23 := below_cell b9 (World.block_lt_of_cell? _ _ y23) y23)
          go_ret
          exact ⟨rfl, below_trans HX.out HX.out.size b9⟩
        · have g3 : z13 ≤ 0 := q3 (by omega) (by omega)
          go_wp2_with (go_at_call 14; refine HC.out.mono ?_; rintro e w9 ⟨rfl, b9⟩; have u10 := below_cell b9 (World.block_lt_of_cell? _ _ y10) y10; have u11 := below_cell b9 (World.block_lt_of_cell? _ _ y11) y11; have u12 := below_cell b9 (World.block_lt_of_cell? _ _ y12) y12; have u13 := below_cell b9 (World.block_lt_of_cell? _ _ y13) y13; have u20 := below_cell b9 (World.block_lt_of_cell? _ _ y20) y20; have u21 := below_cell b9 (World.block_lt_of_cell? _ _ y21) y21; have u22 := below_cell b9 (World.block_lt_of_cell? _ _ y22) y22; have u23 := below_cell b9 (World.block_lt_of_cell? _ _ y23) y23)
          go_ret
          exact ⟨rfl, below_trans HX.out HX.out.size b9⟩
  · obtain ⟨hok1, hok2⟩ := Bool.and_eq_true_iff.1 hok
    have hwr := writeR_good hok1 hok2
    rw [hwr] at hn ⊢
    rcases hn with ⟨rfl, _⟩ | ⟨_, h0⟩
    rotate_left
    · exact absurd rfl h0
    simp only
    have htl : (writeT l).length ≤ 100000 := by
      have := join_len [43] 500 (l.map opT) (fun p hp => by
        obtain ⟨o, ho, rfl⟩ := List.mem_map.1 hp
        exact opT_len (List.all_eq_true.1 hok2 _ ho))
      have := lenB_le hok1
      unfold writeT; simp only [List.length_map, List.length_cons, List.length_nil] at *; omega
    have hR := fread_any ⟨(writeT l).toArray⟩ w2 (by simpa [ByteArray.size] using htl) (HT.out.below B2.out) (HV.out.below B2.out)
    have hrd : readF (⟨(writeT l).toArray⟩ : ByteArray).data.toList = some l := (readF_iff _ _).2 (by rw [okT_iff]; exact ⟨by unfold lenB at hok1; simpa using hok1, hok2, by simp⟩)
    rw [hrd] at hR
    have HR := Lib.hid hR
    clear hR hrd hok hok2 hwr htl
    go_wp2_with fail
    refine HR.out.mono ?_
    rintro e w3 ⟨(⟨L, ao', cap', rfl, hr, hops⟩ | ⟨_, hr⟩), b3⟩
    rotate_left
    · cases hr
    obtain rfl := Option.some.inj hr
    have B3 := Lib.hid (below_step B2.out b3)
    have HO := Lib.hid hops
    have hl8 := lenB_le hok1
    have HSM := Lib.hid (same_any ao' ao cap' c l l w3 hops (HL.out.below B3.out) (by unfold maxLen; omega) (by unfold maxLen; omega))
    clear b3 hops hr
    go_wp2_with fail
    refine HSM.out.mono ?_
    rintro e w6 ⟨⟨r, rfl, hr⟩, b6⟩
    obtain rfl : r = true := hr.2 trivial
    have B2 := Lib.hid (below_step B3.out b6)
    clear b6 hr
    go_wp2_with fail
    refine (FR.out _ B2.out).mono ?_
    rintro e w4 ⟨(⟨L, ao', cap', rfl, hr, hops⟩ | ⟨rfl, hr⟩), b4⟩
    · have hL := (readF_iff _ _).1 hr
      rw [okT_iff] at hL
      obtain ⟨hL1, hL2, hL3⟩ := hL
      have B4 := Lib.hid (below_step B2.out b4)
      have BX := Lib.hid B4.out
      have HO := Lib.hid hops
      have hF := fwrite_any ao' cap' L w4 hops (by unfold maxLen; omega) (fun o ho => by
        have h := List.all_eq_true.1 hL2 o ho
        have h1 := word_size (key_word (op_key h))
        have h2 := word_size (op_value h)
        omega) (HT.out.below B4.out)
      rw [writeR_good (by unfold lenB; simpa using hL1) hL2] at hF
      have HF := Lib.hid hF
      have hne : (!writeT L == s.toList) = false := by rw [ByteArray.toList_eq, hL3]; simp
      clear hF hops b4 hr hL2 hL3
      go_wp2_with fail
      refine HF.out.mono ?_
      rintro e w5 ⟨⟨v, rfl, _, (⟨rfl, _⟩ | ⟨_, h0⟩)⟩, b5⟩
      · have B2 := Lib.hid (below_step B4.out b5)
        clear b5
        simp only
        go_wp2_with fail
        have c10 := below_cell B2.out (by omega) c10
        have c11 := below_cell B2.out (by omega) c11
        have c12 := below_cell B2.out (by omega) c12
        have c13 := below_cell B2.out (by omega) c13
        have c20 := below_cell B2.out (by omega) c20
        have c21 := below_cell B2.out (by omega) c21
        have c22 := below_cell B2.out (by omega) c22
        have c23 := below_cell B2.out (by omega) c23
        have c30 := below_cell B2.out (by omega) c30
        have c31 := below_cell B2.out (by omega) c31
        have c32 := below_cell B2.out (by omega) c32
        have c33 := below_cell B2.out (by omega) c33
        refine wp_region_in (S := Bel w5) (by kernel_rfl) (by kernel_rfl) (bel_drew (Below.refl _ _)) (fun hne => ?_)
        have x10 : ∀ X : InC (Bel w5), X.w.cell? ⟨kb, 0, none⟩ = some (.int .i64 k1) := fun X => X.cell c10
        have x11 : ∀ X : InC (Bel w5), X.w.cell? ⟨kb, 1, none⟩ = some (.int .i64 a1) := fun X => X.cell c11
        have x12 : ∀ X : InC (Bel w5), X.w.cell? ⟨kb, 2, none⟩ = some (.string s1) := fun X => X.cell c12
        have x13 : ∀ X : InC (Bel w5), X.w.cell? ⟨kb, 3, none⟩ = some (.int .i64 b1) := fun X => X.cell c13
        have x20 : ∀ X : InC (Bel w5), X.w.cell? ⟨kb + 1, 0, none⟩ = some (.int .i64 k2) := fun X => X.cell c20
        have x21 : ∀ X : InC (Bel w5), X.w.cell? ⟨kb + 1, 1, none⟩ = some (.int .i64 a2) := fun X => X.cell c21
        have x22 : ∀ X : InC (Bel w5), X.w.cell? ⟨kb + 1, 2, none⟩ = some (.string s2) := fun X => X.cell c22
        have x23 : ∀ X : InC (Bel w5), X.w.cell? ⟨kb + 1, 3, none⟩ = some (.int .i64 b2) := fun X => X.cell c23
        have x30 : ∀ X : InC (Bel w5), X.w.cell? ⟨kb + 1 + 1, 0, none⟩ = some (.int .i64 k3) := fun X => X.cell c30
        have x31 : ∀ X : InC (Bel w5), X.w.cell? ⟨kb + 1 + 1, 1, none⟩ = some (.int .i64 a3) := fun X => X.cell c31
        have x32 : ∀ X : InC (Bel w5), X.w.cell? ⟨kb + 1 + 1, 2, none⟩ = some (.string s3) := fun X => X.cell c32
        have x33 : ∀ X : InC (Bel w5), X.w.cell? ⟨kb + 1 + 1, 3, none⟩ = some (.int .i64 b3) := fun X => X.cell c33
        repeat (go_big_quiet_step (first | (go_at_call 14; exact InC.call (CC.out _ _ _ _ _ _ _ _ _))))
        refine wpQuiet_nil ?_
        rintro _ ⟨X, rfl⟩
        have HX := Lib.hid (below_trans HB.out HB.out.size (below_trans B2.out B2.out.size X.ok))
        have y10 := x10 X
        have y11 := x11 X
        have y12 := x12 X
        have y13 := x13 X
        have y20 := x20 X
        have y21 := x21 X
        have y22 := x22 X
        have y23 := x23 X
        have y30 := x30 X
        have y31 := x31 X
        have y32 := x32 X
        have y33 := x33 X
        clear x10 x11 x12 x13 x20 x21 x22 x23 x30 x31 x32 x33
        obtain ⟨q1, q2, q3⟩ := LW.out
        have q2' : ((keyCmp ⟨k1, a1, s1, b1⟩ ⟨k2, a2, s2, b2⟩ == 0) == keyEqB k1 a1 b1 k2 a2 b2 s1 s2) = true := by rw [EQ.out, beq_iff_eq, Bool.eq_iff_iff]; simpa using q2
        have q4 := cmp_le ⟨k2, a2, s2, b2⟩ ⟨k1, a1, s1, b1⟩
        generalize keyCmp ⟨k1, a1, s1, b1⟩ ⟨k2, a2, s2, b2⟩ = z12 at *
        generalize hz21 : keyCmp ⟨k2, a2, s2, b2⟩ ⟨k1, a1, s1, b1⟩ = z21 at *
        generalize keyCmp ⟨k2, a2, s2, b2⟩ ⟨k3, a3, s3, b3⟩ = z23 at *
        generalize keyCmp ⟨k1, a1, s1, b1⟩ ⟨k3, a3, s3, b3⟩ = z13 at *
        have hc := CC.out k2 a2 b2 k1 a1 b1 s2 s1 X.w
        rw [hz21] at hc
        have HC := Lib.hid hc
        clear hc hz21 q2
        have qe : (z12 == -z21) = true := by simpa using q1
        obtain ⟨p1, p2⟩ := q4
        clear q1
        by_cases g1 : 0 < z12
        · have g1' : decide (0 < z12) = true := decide_eq_true g1
          go_wp2_with (go_at_call 14; refine HC.out.mono ?_; rintro e w9 ⟨rfl, b9⟩; have u10 := below_cell b9 (World.block_lt_of_cell? _ _ y10) y10; have u11 := below_cell b9 (World.block_lt_of_cell? _ _ y11) y11; have u12 := below_cell b9 (World.block_lt_of_cell? _ _ y12) y12; have u13 := below_cell b9 (World.block_lt_of_cell? _ _ y13) y13; have u20 := below_cell b9 (World.block_lt_of_cell? _ _ y20) y20; have u21 := below_cell b9 (World.block_lt_of_cell? _ _ y21) y21; have u22 := below_cell b9 (World.block_lt_of_cell? _ _ y22) y22; have u23 := below_cell b9 (World.block_lt_of_cell? _ _ y23) y23)
          go_ret
          exact ⟨rfl, below_trans HX.out HX.out.size b9⟩
        · by_cases g2 : 0 < z23
          · go_wp2_with (go_at_call 14; refine HC.out.mono ?_; rintro e w9 ⟨rfl, b9⟩; have u10 := below_cell b9 (World.block_lt_of_cell? _ _ y10) y10; have u11 := below_cell b9 (World.block_lt_of_cell? _ _ y11) y11; have u12 := below_cell b9 (World.block_lt_of_cell? _ _ y12) y12; have u13 := below_cell b9 (World.block_lt_of_cell? _ _ y13) y13; have u20 := below_cell b9 (World.block_lt_of_cell? _ _ y20) y20; have u21 := below_cell b9 (World.block_lt_of_cell? _ _ y21) y21; have u22 := below_cell b9 (World.block_lt_of_cell? _ _ y22) y22; have u23 := below_cell b9 (World.block_lt_of_cell? _ _ y23) y23)
            go_ret
            exact ⟨rfl, below_trans HX.out HX.out.size b9⟩
          · have g3 : z13 ≤ 0 := q3 (by omega) (by omega)
            go_wp2_with (go_at_call 14; refine HC.out.mono ?_; rintro e w9 ⟨rfl, b9⟩; have u10 := below_cell b9 (World.block_lt_of_cell? _ _ y10) y10; have u11 := below_cell b9 (World.block_lt_of_cell? _ _ y11) y11; have u12 := below_cell b9 (World.block_lt_of_cell? _ _ y12) y12; have u13 := below_cell b9 (World.block_lt_of_cell? _ _ y13) y13; have u20 := below_cell b9 (World.block_lt_of_cell? _ _ y20) y20; have u21 := below_cell b9 (World.block_lt_of_cell? _ _ y21) y21; have u22 := below_cell b9 (World.block_lt_of_cell? _ _ y22) y22; have u23 := below_cell b9 (World.block_lt_of_cell? _ _ y23) y23)
            go_ret
            exact ⟨rfl, below_trans HX.out HX.out.size b9⟩
      · exact absurd rfl h0
    · have B4 := Lib.hid (below_step B2.out b4)
      clear b4 hr
      go_wp2_with fail
      have B2 := B4
      have c10 := below_cell B2.out (by omega) c10
      have c11 := below_cell B2.out (by omega) c11
      have c12 := below_cell B2.out (by omega) c12
      have c13 := below_cell B2.out (by omega) c13
      have c20 := below_cell B2.out (by omega) c20
      have c21 := below_cell B2.out (by omega) c21
      have c22 := below_cell B2.out (by omega) c22
      have c23 := below_cell B2.out (by omega) c23
      have c30 := below_cell B2.out (by omega) c30
      have c31 := below_cell B2.out (by omega) c31
      have c32 := below_cell B2.out (by omega) c32
      have c33 := below_cell B2.out (by omega) c33
      refine wp_region_in (S := Bel w4) (by kernel_rfl) (by kernel_rfl) (bel_drew (Below.refl _ _)) (fun hne => ?_)
      have x10 : ∀ X : InC (Bel w4), X.w.cell? ⟨kb, 0, none⟩ = some (.int .i64 k1) := fun X => X.cell c10
      have x11 : ∀ X : InC (Bel w4), X.w.cell? ⟨kb, 1, none⟩ = some (.int .i64 a1) := fun X => X.cell c11
      have x12 : ∀ X : InC (Bel w4), X.w.cell? ⟨kb, 2, none⟩ = some (.string s1) := fun X => X.cell c12
      have x13 : ∀ X : InC (Bel w4), X.w.cell? ⟨kb, 3, none⟩ = some (.int .i64 b1) := fun X => X.cell c13
      have x20 : ∀ X : InC (Bel w4), X.w.cell? ⟨kb + 1, 0, none⟩ = some (.int .i64 k2) := fun X => X.cell c20
      have x21 : ∀ X : InC (Bel w4), X.w.cell? ⟨kb + 1, 1, none⟩ = some (.int .i64 a2) := fun X => X.cell c21
      have x22 : ∀ X : InC (Bel w4), X.w.cell? ⟨kb + 1, 2, none⟩ = some (.string s2) := fun X => X.cell c22
      have x23 : ∀ X : InC (Bel w4), X.w.cell? ⟨kb + 1, 3, none⟩ = some (.int .i64 b2) := fun X => X.cell c23
      have x30 : ∀ X : InC (Bel w4), X.w.cell? ⟨kb + 1 + 1, 0, none⟩ = some (.int .i64 k3) := fun X => X.cell c30
      have x31 : ∀ X : InC (Bel w4), X.w.cell? ⟨kb + 1 + 1, 1, none⟩ = some (.int .i64 a3) := fun X => X.cell c31
      have x32 : ∀ X : InC (Bel w4), X.w.cell? ⟨kb + 1 + 1, 2, none⟩ = some (.string s3) := fun X => X.cell c32
      have x33 : ∀ X : InC (Bel w4), X.w.cell? ⟨kb + 1 + 1, 3, none⟩ = some (.int .i64 b3) := fun X => X.cell c33
      repeat (go_big_quiet_step (first | (go_at_call 14; exact InC.call (CC.out _ _ _ _ _ _ _ _ _))))
      refine wpQuiet_nil ?_
      rintro _ ⟨X, rfl⟩
      have HX := Lib.hid (below_trans HB.out HB.out.size (below_trans B2.out B2.out.size X.ok))
      have y10 := x10 X
      have y11 := x11 X
      have y12 := x12 X
      have y13 := x13 X
      have y20 := x20 X
      have y21 := x21 X
      have y22 := x22 X
      have y23 := x23 X
      have y30 := x30 X
      have y31 := x31 X
      have y32 := x32 X
      have y33 := x33 X
      clear x10 x11 x12 x13 x20 x21 x22 x23 x30 x31 x32 x33
      obtain ⟨q1, q2, q3⟩ := LW.out
      have q2' : ((keyCmp ⟨k1, a1, s1, b1⟩ ⟨k2, a2, s2, b2⟩ == 0) == keyEqB k1 a1 b1 k2 a2 b2 s1 s2) = true := by rw [EQ.out, beq_iff_eq, Bool.eq_iff_iff]; simpa using q2
      have q4 := cmp_le ⟨k2, a2, s2, b2⟩ ⟨k1, a1, s1, b1⟩
      generalize keyCmp ⟨k1, a1, s1, b1⟩ ⟨k2, a2, s2, b2⟩ = z12 at *
      generalize hz21 : keyCmp ⟨k2, a2, s2, b2⟩ ⟨k1, a1, s1, b1⟩ = z21 at *
      generalize keyCmp ⟨k2, a2, s2, b2⟩ ⟨k3, a3, s3, b3⟩ = z23 at *
      generalize keyCmp ⟨k1, a1, s1, b1⟩ ⟨k3, a3, s3, b3⟩ = z13 at *
      have hc := CC.out k2 a2 b2 k1 a1 b1 s2 s1 X.w
      rw [hz21] at hc
      have HC := Lib.hid hc
      clear hc hz21 q2
      have qe : (z12 == -z21) = true := by simpa using q1
      obtain ⟨p1, p2⟩ := q4
      clear q1
      by_cases g1 : 0 < z12
      · have g1' : decide (0 < z12) = true := decide_eq_true g1
        go_wp2_with (go_at_call 14; refine HC.out.mono ?_; rintro e w9 ⟨rfl, b9⟩; have u10 := below_cell b9 (World.block_lt_of_cell? _ _ y10) y10; have u11 := below_cell b9 (World.block_lt_of_cell? _ _ y11) y11; have u12 := below_cell b9 (World.block_lt_of_cell? _ _ y12) y12; have u13 := below_cell b9 (World.block_lt_of_cell? _ _ y13) y13; have u20 := below_cell b9 (World.block_lt_of_cell? _ _ y20) y20; have u21 := below_cell b9 (World.block_lt_of_cell? _ _ y21) y21; have u22 := below_cell b9 (World.block_lt_of_cell? _ _ y22) y22; have u23 := below_cell b9 (World.block_lt_of_cell? _ _ y23) y23)
        go_ret
        exact ⟨rfl, below_trans HX.out HX.out.size b9⟩
      · by_cases g2 : 0 < z23
        · go_wp2_with (go_at_call 14; refine HC.out.mono ?_; rintro e w9 ⟨rfl, b9⟩; have u10 := below_cell b9 (World.block_lt_of_cell? _ _ y10) y10; have u11 := below_cell b9 (World.block_lt_of_cell? _ _ y11) y11; have u12 := below_cell b9 (World.block_lt_of_cell? _ _ y12) y12; have u13 := below_cell b9 (World.block_lt_of_cell? _ _ y13) y13; have u20 := below_cell b9 (World.block_lt_of_cell? _ _ y20) y20; have u21 := below_cell b9 (World.block_lt_of_cell? _ _ y21) y21; have u22 := below_cell b9 (World.block_lt_of_cell? _ _ y22) y22; have u23 := below_cell b9 (World.block_lt_of_cell? _ _ y23) y23)
          go_ret
          exact ⟨rfl, below_trans HX.out HX.out.size b9⟩
        · have g3 : z13 ≤ 0 := q3 (by omega) (by omega)
          go_wp2_with (go_at_call 14; refine HC.out.mono ?_; rintro e w9 ⟨rfl, b9⟩; have u10 := below_cell b9 (World.block_lt_of_cell? _ _ y10) y10; have u11 := below_cell b9 (World.block_lt_of_cell? _ _ y11) y11; have u12 := below_cell b9 (World.block_lt_of_cell? _ _ y12) y12; have u13 := below_cell b9 (World.block_lt_of_cell? _ _ y13) y13; have u20 := below_cell b9 (World.block_lt_of_cell? _ _ y20) y20; have u21 := below_cell b9 (World.block_lt_of_cell? _ _ y21) y21; have u22 := below_cell b9 (World.block_lt_of_cell? _ _ y22) y22; have u23 := below_cell b9 (World.block_lt_of_cell? _ _ y23) y23)
          go_ret
          exact ⟨rfl, below_trans HX.out HX.out.size b9⟩
end Go.Proofs.YtjgmgaleaihjpaaDoor
