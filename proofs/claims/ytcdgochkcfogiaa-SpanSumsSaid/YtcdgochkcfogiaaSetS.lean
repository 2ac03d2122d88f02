/- The walk of SpanSums. -/
import Derived.Test.YtcdgochkcfogiaaSetQ
import Derived.Test.YtcdgochkcfogiaaSetR
import Derived.Test.YtcdgochkcfogiaaCls
namespace Go.Proofs.Ytcdgochkcfogiaa
open Go.RowKit Go.Shelf Go.Sort

def fiveAt (pa pb pu po pm : Nat) (A B U O M : List (Int × Int)) (W : World) : Prop := setAt W pa A ∧ setAt W pb B ∧ setAt W pu U ∧ setAt W po O ∧ setAt W pm M
theorem fiveAt.below {pa pb pu po pm : Nat} {A B U O M : List (Int × Int)} {W W' : World} (h : fiveAt pa pb pu po pm A B U O M W) (hb : Below W.heap.size W W') : fiveAt pa pb pu po pm A B U O M W' :=
  ⟨h.1.below hb, h.2.1.below hb, h.2.2.1.below hb, h.2.2.2.1.below hb, h.2.2.2.2.below hb⟩

set_option maxRecDepth 100000 in
set_option maxHeartbeats 8000000 in
theorem spanSums_walk (l0 l1 l2 : List (Int × Int)) (a0 a1 a2 : Option Addr) (c0 c1 c2 : Nat) (w : World) (h0 : spansAt w a0 l0) (h1 : spansAt w a1 l1) (h2 : spansAt w a2 l2)
    (m0 : l0.length ≤ maxLen) (m1 : l1.length ≤ maxLen) (m2 : l2.length ≤ maxLen) (i0 : i64L l0) (i1 : i64L l1) (i2 : i64L l2) :
    Calls Try.prog 4 #[.slice a0 l0.length c0, .slice a1 l1.length c1, .slice a2 l2.length c2] w fun e w' => e = .returned (.bool true) ∧ Below w.heap.size w w' := by
  unfold maxLen at m0 m1 m2
  by_cases g0 : 60 < l0.length
  · go_enter Try.func4, Try.ntmps4
    go_wp2_with fail
    go_ret
    exact ⟨rfl, Below.refl _ _⟩
  by_cases g1 : 60 < l1.length
  · go_enter Try.func4, Try.ntmps4
    go_wp2_with fail
    go_ret
    exact ⟨rfl, Below.refl _ _⟩
  by_cases g2 : 60 < l2.length
  · go_enter Try.func4, Try.ntmps4
    go_wp2_with fail
    go_ret
    exact ⟨rfl, Below.refl _ _⟩
  obtain ⟨A, B, C, U, O, M, D, V, X, Y, hA, hB, hC, S⟩ := sums_any l0 l1 l2
  have m0' : l0.length ≤ maxLen := by unfold maxLen; omega
  have m1' : l1.length ≤ maxLen := by unfold maxLen; omega
  have m2' : l2.length ≤ maxLen := by unfold maxLen; omega
  have k0 := fun W (hs : spansAt W a0 l0) => made_any l0 a0 c0 W hs m0' i0
  have k1 := fun W (hs : spansAt W a1 l1) => made_any l1 a1 c1 W hs m1' i1
  have k2 := fun W (hs : spansAt W a2 l2) => made_any l2 a2 c2 W hs m2' i2
  rw [hA] at k0
  rw [hB] at k1
  rw [hC] at k2
  clear hA hB hC m0' m1' m2' i0 i1 i2
  go_enter Try.func4, Try.ntmps4
  go_wp2_with fail
  refine (parted_any _).mono ?_
  rintro e w1 ⟨rfl, b1⟩
  have h0 := h0.below b1
  have h1 := h1.below b1
  have h2 := h2.below b1
  go_wp2_with fail
  refine (k0 _ h0).mono ?_
  rintro e w2 ⟨pa, rfl, b2, sA⟩
  have h1 := h1.below b2
  have h2 := h2.below b2
  have b2 := below_step b1 b2
  go_wp2_with fail
  refine (k1 _ h1).mono ?_
  rintro e w3 ⟨pb, rfl, b3, sB⟩
  have h2 := h2.below b3
  have sA := sA.below b3
  have b3 := below_step b2 b3
  go_wp2_with fail
  refine (k2 _ h2).mono ?_
  rintro e w4 ⟨pc, rfl, b4, sC⟩
  have sA := sA.below b4
  have sB := sB.below b4
  have b4 := below_step b3 b4
  clear h0 h1 h2 k0 k1 k2 b1 b2 b3
  go_wp2_with fail
  refine (union_any pa pb A B _ sA sB S.rA S.rB).mono ?_
  rintro e w5 ⟨rx, ry, rfl, b5, hres⟩
  obtain ⟨pu, rfl, rfl, sU⟩ := hres.ok (by rw [S.eU]; exact S.lU)
  rw [S.eU] at sU
  have sA := sA.below b5
  have sB := sB.below b5
  have sC := sC.below b5
  have b5 := below_step b4 b5
  clear hres b4
  go_wp2_with fail
  refine (both_any pa pb A B _ sA sB S.rA S.rB).mono ?_
  rintro e w6 ⟨rx, ry, rfl, b6, hres⟩
  obtain ⟨po, rfl, rfl, sO⟩ := hres.ok (by rw [S.eO]; exact S.lO)
  rw [S.eO] at sO
  have sA := sA.below b6
  have sB := sB.below b6
  have sC := sC.below b6
  have sU := sU.below b6
  have b6 := below_step b5 b6
  clear hres b5
  go_wp2_with fail
  refine (minus_any pa pb A B _ sA sB S.rA S.rB S.nA).mono ?_
  rintro e w7 ⟨rx, ry, rfl, b7, hres⟩
  obtain ⟨pm, rfl, rfl, sM⟩ := hres.ok (by rw [S.eM]; exact S.lM)
  rw [S.eM] at sM
  have sA := sA.below b7
  have sB := sB.below b7
  have sC := sC.below b7
  have sU := sU.below b7
  have sO := sO.below b7
  have b7 := below_step b6 b7
  clear hres b6
  go_wp2_with fail
  refine (union_any pb pa B A _ sB sA S.rB S.rA).mono ?_
  rintro e w8 ⟨rx, ry, rfl, b8, hres⟩
  obtain ⟨pu2, rfl, rfl, sU2⟩ := hres.ok (by rw [S.eU2]; exact S.lU)
  rw [S.eU2] at sU2
  have sA := sA.below b8
  have sB := sB.below b8
  have sC := sC.below b8
  have sU := sU.below b8
  have sO := sO.below b8
  have sM := sM.below b8
  have b8 := below_step b7 b8
  clear hres b7
  go_wp2_with fail
  refine (sameSets_any pu pu2 U U _ sU sU2).mono ?_
  rintro e w9 ⟨rfl, b9⟩
  rw [show decide (U = U) = true from decide_eq_true rfl]
  have sA := sA.below b9
  have sB := sB.below b9
  have sC := sC.below b9
  have sU := sU.below b9
  have sO := sO.below b9
  have sM := sM.below b9
  have b9 := below_step b8 b9
  clear b8 sU2
  have F9 : fiveAt pa pb pu po pm A B U O M w9 := ⟨sA, sB, sU, sO, sM⟩
  clear sA sB sU sO sM
  have SH := Lib.hid S
  clear S
  go_wp2_with fail
  go_loopw [18] (fun i wr => ∃ t : Int, -110 ≤ t ∧ t ≤ 140 ∧ i = .int .i64 t ∧ Below w9.heap.size w9 wr) (fun i _ => (140 - intOf i).toNat)
  case atStart => exact ⟨-110, by omega, by omega, rfl, Below.refl _ _⟩
  case round =>
    obtain ⟨t, ht1, ht2, rfl, hB⟩ := hrel
    have hsz := hB.size
    have F := F9.below hB
    by_cases hlt : t < 140
    · have cA := fun W (hs : fiveAt pa pb pu po pm A B U O M W) => setHas_any pa A t W hs.1 SH.out.nA
      have cB := fun W (hs : fiveAt pa pb pu po pm A B U O M W) => setHas_any pb B t W hs.2.1 SH.out.nB
      have cU := fun W (hs : fiveAt pa pb pu po pm A B U O M W) => setHas_any pu U t W hs.2.2.1 SH.out.nU
      have cO := fun W (hs : fiveAt pa pb pu po pm A B U O M W) => setHas_any po O t W hs.2.2.2.1 SH.out.nO
      have cM := fun W (hs : fiveAt pa pb pu po pm A B U O M W) => setHas_any pm M t W hs.2.2.2.2 SH.out.nM
      rw [SH.out.iU] at cU
      rw [SH.out.iO] at cO
      rw [SH.out.iM] at cM
      generalize inL A t = qa at *
      generalize inL B t = qb at *
      cases qa <;> cases qb
      all_goals
        simp only [Bool.or_false, Bool.or_true, Bool.and_true, Bool.and_false, Bool.not_true, Bool.not_false] at cU cO cM
        go_wp2_with (first
          | (go_at_call 23; (with_reducible refine (cA wr F).mono ?_); rintro e x1 ⟨rfl, y1⟩; have F1 := F.below y1; have y1 := below_trans hB hsz y1)
          | (go_at_call 23; (with_reducible refine (cB x1 F1).mono ?_); rintro e x2 ⟨rfl, y2⟩; have F2 := F1.below y2; have y2 := below_trans y1 y1.size y2)
          | (go_at_call 23; (with_reducible refine (cU x2 F2).mono ?_); rintro e x3 ⟨rfl, y3⟩; have F3 := F2.below y3; have y3 := below_trans y2 y2.size y3)
          | (go_at_call 23; (with_reducible refine (cO x3 F3).mono ?_); rintro e x4 ⟨rfl, y4⟩; have F4 := F3.below y4; have y4 := below_trans y3 y3.size y4)
          | (go_at_call 23; (with_reducible refine (cM x4 F4).mono ?_); rintro e x5 ⟨rfl, y5⟩; have y5 := below_trans y4 y4.size y5))
        exact ⟨⟨t + 1, by omega, by omega, by go_num, y5⟩, by simp [intOf]; omega⟩
    · have sC := sC.below hB
      have b10 := below_step b9 hB
      clear hB hsz F9 b9
      obtain ⟨sA, sB, sU, sO, sM⟩ := F
      go_wp2_with fail
      refine (minus_any pa pm A M _ sA sM SH.out.rA SH.out.rM SH.out.nA).mono ?_
      rintro e w11 ⟨rx, ry, rfl, b11, hres⟩
      obtain ⟨pd, rfl, rfl, sD⟩ := hres.ok (by rw [SH.out.eD]; exact SH.out.lO)
      rw [SH.out.eD] at sD
      have sA := sA.below b11
      have sB := sB.below b11
      have sC := sC.below b11
      have sU := sU.below b11
      have sO := sO.below b11
      have b11 := below_step b10 b11
      clear hres b10 sM
      go_wp2_with fail
      refine (union_any pu pc U C _ sU sC SH.out.rU SH.out.rC).mono ?_
      rintro e w12 ⟨rx, ry, rfl, b12, hres⟩
      obtain ⟨px, rfl, rfl, sX⟩ := hres.ok (by rw [SH.out.eX]; exact SH.out.lX)
      rw [SH.out.eX] at sX
      have sA := sA.below b12
      have sB := sB.below b12
      have sC := sC.below b12
      have sU := sU.below b12
      have sO := sO.below b12
      have sD := sD.below b12
      have b12 := below_step b11 b12
      clear hres b11
      go_wp2_with fail
      refine (union_any pb pc B C _ sB sC SH.out.rB SH.out.rC).mono ?_
      rintro e w13 ⟨rx, ry, rfl, b13, hres⟩
      obtain ⟨pv, rfl, rfl, sV⟩ := hres.ok (by rw [SH.out.eV]; exact SH.out.lV)
      rw [SH.out.eV] at sV
      have sA := sA.below b13
      have sU := sU.below b13
      have sO := sO.below b13
      have sD := sD.below b13
      have sX := sX.below b13
      have b13 := below_step b12 b13
      clear hres b12 sB sC
      go_wp2_with fail
      refine (sameSets_any pd po O O _ sD sO).mono ?_
      rintro e w14 ⟨rfl, b14⟩
      rw [show decide (O = O) = true from decide_eq_true rfl]
      have sA := sA.below b14
      have sU := sU.below b14
      have sX := sX.below b14
      have sV := sV.below b14
      have b14 := below_step b13 b14
      clear b13 sO sD
      go_wp2_with fail
      refine (union_any pa pv A V _ sA sV SH.out.rA SH.out.rV).mono ?_
      rintro e w15 ⟨rx, ry, rfl, b15, hres⟩
      obtain ⟨py, rfl, rfl, sY⟩ := hres.ok (by rw [SH.out.eY]; exact SH.out.lX)
      rw [SH.out.eY] at sY
      have sU := sU.below b15
      have sX := sX.below b15
      have b15 := below_step b14 b15
      clear hres b14 sA sV
      go_wp2_with fail
      refine (sameSets_any px py X X _ sX sY).mono ?_
      rintro e w16 ⟨rfl, b16⟩
      rw [show decide (X = X) = true from decide_eq_true rfl]
      have sU := sU.below b16
      have b16 := below_step b15 b16
      clear b15 sX sY
      go_wp2_with fail
      refine (spans_any pu U _ sU).mono ?_
      rintro e w17 ⟨v17, rfl, ho17, b17⟩
      obtain ⟨ar, cr, rfl, sR⟩ := ownsRow_spans ho17
      have b17 := below_step b16 b17
      clear b16 sU ho17
      have lU := SH.out.lU
      have hsz17 := b17.size
      go_wp2_with fail
      go_loopw [27] (fun i wr => ∃ k : Nat, k ≤ U.length ∧ i = .int .i64 k ∧ Below w17.heap.size w17 wr) (fun i _ => U.length - (intOf i).toNat)
      case atStart => exact ⟨0, by omega, rfl, Below.refl _ _⟩
      case round =>
        obtain ⟨k, hk, rfl, hB⟩ := hrel
        have hsz := hB.size
        by_cases hlt : k < U.length
        · obtain ⟨b, o, x, y, g1, rfl, d1, d2⟩ := spansAt_get sR hlt
          have hb : b < w17.heap.size := World.block_lt_of_cell? w17 _ d1
          have hb' : b < wr.heap.size := by omega
          have d1' := d1
          have d2' := d2
          have d1 := below_cell hB hb d1
          have d2 := below_cell hB hb d2
          have hr : rightB x y = true := SH.out.rU (x, y) (List.mem_of_getElem? g1.out)
          have hR := fun W => right_any x y W
          rw [hr] at hR
          clear hr
          by_cases h0 : k = 0
          · have hd : decide (0 < k) = false := by simp; omega
            have hdi : decide ((0 : Int) < (k : Int)) = false := by simp; omega
            clear h0
            go_wp2_with fail
            refine wp_region_in (S := Bel w17) (by kernel_rfl) (by kernel_rfl) (bel_drew hB) (fun hne => ?_)
            have q1 : ∀ X : InC (Bel w17), X.w.cell? ⟨b, o + k * 2, none⟩ = some (.int .i64 x) := fun X => X.cell d1'
            have q2 : ∀ X : InC (Bel w17), X.w.cell? ⟨b, o + k * 2 + 1, none⟩ = some (.int .i64 y) := fun X => X.cell d2'
            repeat (go_big_quiet_step ((go_at_call 6; exact InC.call (hR _))))
            refine wpQuiet_nil ?_
            rintro _ ⟨X, rfl⟩
            go_wp2_with fail
            exact ⟨⟨k + 1, by omega, by go_num, X.ok⟩, by simp [intOf]; omega⟩
          · obtain ⟨x0, y0, g0⟩ : ∃ x0 y0, U[k - 1]? = some (x0, y0) := ⟨U[k - 1].1, U[k - 1].2, List.getElem?_eq_getElem (by omega)⟩
            obtain ⟨b0, o0, e0, f1, f2⟩ := sR (k - 1) x0 y0 g0
            cases e0
            have hgap := norm_gap SH.out.nU (k - 1) k (x0, y0) (x, y) (by omega) g0 g1.out
            simp only at hgap
            have hn : 0 < k := by omega
            have hni : (0 : Int) < (k : Int) := by omega
            have hni1 : (0 : Int) ≤ (k : Int) - 1 := by omega
            obtain ⟨j, hj⟩ : ∃ j, j = k - 1 := ⟨k - 1, rfl⟩
            rw [← hj] at f2
            have hk1 : (k : Int) - 1 = (j : Int) := by omega
            have f2' := f2
            have f2 := below_cell hB hb f2
            have hlt' : j < U.length := by omega
            have hgap' : y0 < x := hgap
            have hwj : IntKind.i64.wrap (j : Int) = (j : Int) := by have := IntKind.wrap_i64 (j : Int); omega
            clear h0 g0 f1 hgap hj
            go_wp2_with fail
            refine wp_region_in (S := Bel w17) (by kernel_rfl) (by kernel_rfl) (bel_drew hB) (fun hne => ?_)
            have q1 : ∀ X : InC (Bel w17), X.w.cell? ⟨b, o + k * 2, none⟩ = some (.int .i64 x) := fun X => X.cell d1'
            have q2 : ∀ X : InC (Bel w17), X.w.cell? ⟨b, o + k * 2 + 1, none⟩ = some (.int .i64 y) := fun X => X.cell d2'
            have q3 : ∀ X : InC (Bel w17), X.w.cell? ⟨b, o + j * 2 + 1, none⟩ = some (.int .i64 y0) := fun X => X.cell f2'
            repeat (go_big_quiet_step ((go_at_call 6; exact InC.call (hR _))))
            refine wpQuiet_nil ?_
            rintro _ ⟨X, rfl⟩
            go_wp2_with fail
            exact ⟨⟨k + 1, by omega, by go_num, X.ok⟩, by simp [intOf]; omega⟩
        · go_wp2_with fail
          go_ret
          exact ⟨rfl, b17.trans (hB.mono hsz17)⟩
end Go.Proofs.Ytcdgochkcfogiaa
