/- FactWrites' own walk: whatever changes and keys come in, the call returns true. The conditions: the two variables of the library that its row lists hold what the library's text lays. -/
import Derived.Test.YtjgmgaleaihjpaaDoorFcH
import Derived.Test.YtjgmgaleaihjpaaDoorCls
namespace Go.Proofs.YtjgmgaleaihjpaaDoor
open Go.RowKit

def shortO (o : OpP) : Bool := decide (o.key.word.size ≤ 60 ∧ o.value.size ≤ 60)
def shortB (l : List OpP) : Bool := decide (l.length ≤ 20) && l.all shortO
theorem shortB_spec {l : List OpP} (h : shortB l = true) : l.length ≤ 20 ∧ ∀ o ∈ l, o.key.word.size ≤ 60 ∧ o.value.size ≤ 60 := by
  unfold shortB at h
  simp only [Bool.and_eq_true, decide_eq_true_eq, List.all_eq_true] at h
  exact ⟨h.1, fun o ho => by have := h.2 o ho; unfold shortO at this; simpa using this⟩
set_option maxHeartbeats 1000000 in
theorem short_any (ao : Option Addr) (c : Nat) (l : List OpP) (w : World) (hl : opsAt w ao l) (hm : l.length ≤ maxLen) : Calls Tryd.prog 5 #[.slice ao l.length c] w fun e w' => e = .returned (.bool (shortB l)) ∧ w = w' := by
  unfold maxLen at hm
  by_cases h20 : l.length ≤ 20
  · have HL := Lib.hid hl
    clear hl
    go_enter Tryd.func5, Tryd.ntmps5
    go_wp2
    go_loop [3] (fun i => ∃ k : Nat, k ≤ l.length ∧ i = .int .i64 k ∧ Hid ((l.take k).all shortO = true)) (fun i => l.length - (intOf i).toNat)
    case atStart => exact ⟨0, Nat.zero_le _, rfl, Lib.hid (by simp)⟩
    case round =>
      obtain ⟨k, hk, rfl, ha⟩ := hrel
      by_cases hlt : k < l.length
      · obtain ⟨b, f, n, a, s, m, x, y, u, g1, rfl, hb, c0, c1, c2, c3, c4, c5, c6⟩ := opsAt_get HL.out hlt
        have hbad : Hid (¬ (s.size ≤ 60 ∧ u.size ≤ 60) → shortB l = false) := Lib.hid fun h => by
          unfold shortB
          rw [Bool.and_eq_false_iff]; right
          rw [List.all_eq_false]
          exact ⟨_, List.mem_of_getElem? g1.out, by unfold shortO; simpa using h⟩
        by_cases h1 : s.size ≤ 60
        · by_cases h2 : u.size ≤ 60
          · go_wp2
            go_round
            case rel => exact ⟨k + 1, by omega, by go_num, Lib.hid (by rw [List.take_add_one, g1.out, List.all_append, ha.out]; simp [shortO, h1, h2])⟩
            case measure => simp [intOf]; omega
          · go_wp2
            go_ret
            exact ⟨ret_bool (hbad.out (by omega)).symm, rfl⟩
        · go_wp2
          go_ret
          exact ⟨ret_bool (hbad.out (by omega)).symm, rfl⟩
      · have he : l.take k = l := List.take_of_length_le (by omega)
        rw [he] at ha
        clear he
        go_wp2
        go_ret
        exact ⟨ret_bool (by unfold shortB; rw [ha.out]; simp [h20]), rfl⟩
  · clear hl
    go_enter Tryd.func5, Tryd.ntmps5
    go_wp2
    go_ret
    exact ⟨ret_bool (by unfold shortB; simp [h20]), rfl⟩

section
variable (w : World) (k1 a1 b1 k2 a2 b2 : Int) (s1 s2 : ByteArray)
theorem key_fields : Tryd.prog.underlying 24 = some (.struct (Tryd.prog.fieldsOf 24)) := by kernel_rfl
def keyEqB : Bool := k1 == k2 && (a1 == a2 && (s1.toList == s2.toList && b1 == b2))
theorem eqIn_key : (Op.equalIn 10000 24 (.agg #[.int .i64 k1, .int .i64 a1, .string s1, .int .i64 b1]) (.agg #[.int .i64 k2, .int .i64 a2, .string s2, .int .i64 b2])).run Tryd.prog w = .ok (keyEqB k1 a1 b1 k2 a2 b2 s1 s2) w := by
  rw [run_equalIn_struct w 9999 _ _ _ key_fields (by kernel_rfl)]
  unfold keyEqB
  by_cases h1 : k1 = k2 <;> by_cases h2 : a1 = a2 <;> by_cases h3 : s1.toList = s2.toList <;> by_cases h4 : b1 = b2 <;> simp [go_sem, h1, h2, h3, h4]
@[go_sem high] theorem neq_key : (binOp .neq 24 (.agg #[.int .i64 k1, .int .i64 a1, .string s1, .int .i64 b1]) (.agg #[.int .i64 k2, .int .i64 a2, .string s2, .int .i64 b2])).run Tryd.prog w = .ok (.bool (!keyEqB k1 a1 b1 k2 a2 b2 s1 s2)) w := by
  rw [run_neq_struct, eqIn_key]; rfl
@[go_sem high] theorem eql_key : (binOp .eql 24 (.agg #[.int .i64 k1, .int .i64 a1, .string s1, .int .i64 b1]) (.agg #[.int .i64 k2, .int .i64 a2, .string s2, .int .i64 b2])).run Tryd.prog w = .ok (.bool (keyEqB k1 a1 b1 k2 a2 b2 s1 s2)) w := by
  rw [run_eql_struct, eqIn_key]; rfl
theorem keyEqB_iff : keyEqB k1 a1 b1 k2 a2 b2 s1 s2 = decide ((⟨k1, a1, s1, b1⟩ : KeyP) = ⟨k2, a2, s2, b2⟩) := by
  unfold keyEqB
  rw [Bool.eq_iff_iff]
  simp only [Bool.and_eq_true, beq_iff_eq, decide_eq_true_eq, KeyP.mk.injEq]
  constructor
  · rintro ⟨h1, h2, h3, h4⟩
    exact ⟨h1, h2, bytes_ext (by rw [← ByteArray.toList_eq, ← ByteArray.toList_eq]; exact h3), h4⟩
  · rintro ⟨h1, h2, h3, h4⟩
    exact ⟨h1, h2, by rw [h3], h4⟩
theorem cmp_cases : ∃ r q : Bool, ∃ z : Int, keyLess ⟨k1, a1, s1, b1⟩ ⟨k2, a2, s2, b2⟩ = r ∧ keyEqB k1 a1 b1 k2 a2 b2 s1 s2 = q ∧ keyCmp ⟨k1, a1, s1, b1⟩ ⟨k2, a2, s2, b2⟩ = z ∧ ((r = true ∧ z = -1) ∨ (r = false ∧ q = false ∧ z = 1) ∨ (r = false ∧ q = true ∧ z = 0)) := by
  refine ⟨_, _, _, rfl, rfl, rfl, ?_⟩
  rw [cmp_less, keyEqB_iff]
  cases h : keyLess ⟨k1, a1, s1, b1⟩ ⟨k2, a2, s2, b2⟩
  · by_cases e : (⟨k1, a1, s1, b1⟩ : KeyP) = ⟨k2, a2, s2, b2⟩
    · simp [e]
    · simp [e]
  · simp
end
set_option maxRecDepth 100000 in
set_option maxHeartbeats 4000000 in
theorem factWrites_walk (ao : Option Addr) (c : Nat) (l : List OpP) (k1 a1 b1 k2 a2 b2 : Int) (s1 s2 : ByteArray) (w : World) (hg : ErrVar w) (ht : PowTab w) (hl : opsAt w ao l) (hm : l.length ≤ maxLen) (hs1 : s1.size ≤ maxLen) (hs2 : s2.size ≤ maxLen) :
    Calls Tryd.prog 3 #[.slice ao l.length c, .agg #[.int .i64 k1, .int .i64 a1, .string s1, .int .i64 b1], .agg #[.int .i64 k2, .int .i64 a2, .string s2, .int .i64 b2]] w fun e w' => e = .returned (.bool true) ∧ Below w.heap.size w w' := by
  have hs1' := hs1
  have hs2' := hs2
  unfold maxLen at hs1' hs2'
  obtain ⟨W, hW⟩ : ∃ W, W = (w.alloc (.cells #[.int .i64 k1, .int .i64 a1, .string s1, .int .i64 b1] 24)).alloc (.cells #[.int .i64 k2, .int .i64 a2, .string s2, .int .i64 b2] 24) := ⟨_, rfl⟩
  have bA : Below w.heap.size w W := by rw [hW]; exact ((Below.refl _ w).alloc (Nat.le_refl _) _).alloc (by simp) _
  have hwW : w.heap.size < W.heap.size := by rw [hW]; simp; omega
  have hwX : w.heap.size + 1 < W.heap.size := by rw [hW]; simp
  have c0 : W.cell? ⟨w.heap.size, 0, none⟩ = some (.int .i64 k1) := by rw [hW]; simp
  have c1 : W.cell? ⟨w.heap.size, 1, none⟩ = some (.int .i64 a1) := by rw [hW]; simp
  have c2 : W.cell? ⟨w.heap.size, 2, none⟩ = some (.string s1) := by rw [hW]; simp
  have c3 : W.cell? ⟨w.heap.size, 3, none⟩ = some (.int .i64 b1) := by rw [hW]; simp
  have d0 : W.cell? ⟨w.heap.size + 1, 0, none⟩ = some (.int .i64 k2) := by rw [hW]; simp
  have d1 : W.cell? ⟨w.heap.size + 1, 1, none⟩ = some (.int .i64 a2) := by rw [hW]; simp
  have d2 : W.cell? ⟨w.heap.size + 1, 2, none⟩ = some (.string s2) := by rw [hW]; simp
  have d3 : W.cell? ⟨w.heap.size + 1, 3, none⟩ = some (.int .i64 b2) := by rw [hW]; simp
  have HW := Lib.hid hW
  have HB := Lib.hid bA
  have HS := Lib.hid (short_any ao c l W (hl.below bA) hm)
  have HL := Lib.hid hl
  have HG := Lib.hid hg
  have HT := Lib.hid ht
  clear hW bA hl hg ht
  cases hsh : shortB l
  · rw [hsh] at HS
    go_enter Tryd.func3, Tryd.ntmps3
    go_wp2_with fail
    rw [← HW.out]
    go_wp2_with (go_at_call 5; refine HS.out.mono ?_; rintro e w1 ⟨rfl, rfl⟩)
    go_ret
    exact ⟨rfl, HB.out⟩
  · rw [hsh] at HS
    by_cases h1 : s1.size ≤ 60
    · by_cases h2 : s2.size ≤ 60
      · obtain ⟨h20, hsz⟩ := shortB_spec hsh
        obtain ⟨r, q, z, hr, hq, hz, hrqz⟩ := cmp_cases k1 a1 b1 k2 a2 b2 s1 s2
        have CL := Lib.hid fun X => rless_any k1 a1 b1 k2 a2 b2 s1 s2 X
        have CC := Lib.hid fun X => fcmp_any k1 a1 b1 k2 a2 b2 s1 s2 X
        have CK1 := Lib.hid fun X => fkey_any k1 a1 b1 s1 X hs1
        have CK2 := Lib.hid fun X => rkey_any k1 a1 b1 s1 X hs1
        have CW1 := Lib.hid fun X => fword_any s2 X hs2
        have CW2 := Lib.hid fun X => rword_any s2 X hs2
        rw [hr] at CL
        rw [hz] at CC
        clear hr hz
        generalize keyB ⟨k1, a1, s1, b1⟩ = kb at *
        generalize wordB s2 = wb at *
        have RW := Lib.hid fun X (hX : Below W.heap.size W X) => rwrite_any ao c l X ((HL.out.below HB.out).below hX) h20 hsz ((HT.out.below HB.out).below hX)
        have FW := Lib.hid fun X (hX : Below W.heap.size W X) => fwrite_any ao c l X ((HL.out.below HB.out).below hX) h20 hsz ((HT.out.below HB.out).below hX)
        generalize (writeR l).1 = T at *
        generalize (writeR l).2.1 = en at *
        generalize (writeR l).2.2 = ep at *
        have HSZ := Lib.hid hsz
        clear hsz hsh
        rcases hrqz with ⟨rfl, rfl⟩ | ⟨rfl, rfl, rfl⟩ | ⟨rfl, rfl, rfl⟩
        all_goals
          go_enter Tryd.func3, Tryd.ntmps3
          go_wp2_with fail
          rw [← HW.out]
          go_wp2_with (first | (go_at_call 5; refine HS.out.mono ?_; rintro e w1 ⟨rfl, rfl⟩) | (go_at_call 6; refine (CL.out _).mono ?_; rintro e w1 ⟨rfl, b1⟩; have c0 := below_cell b1 hwW c0; have c1 := below_cell b1 hwW c1; have c2 := below_cell b1 hwW c2; have c3 := below_cell b1 hwW c3; have d0 := below_cell b1 hwX d0; have d1 := below_cell b1 hwX d1; have d2 := below_cell b1 hwX d2; have d3 := below_cell b1 hwX d3; have hwW1 := Nat.lt_of_lt_of_le hwW b1.size; have hwX1 := Nat.lt_of_lt_of_le hwX b1.size; have hB1 := Lib.hid b1; clear b1))
        all_goals
          refine (RW.out w1 hB1.out).mono ?_
          rintro e w2 ⟨rfl, b2⟩
          go_wp2_with fail
          obtain ⟨V, hV⟩ : ∃ V, V = w2.alloc (.cells #[.int .i64 en, .int .i64 ep] 29) := ⟨_, rfl⟩
          rw [← hV]
          have b3 : Below w2.heap.size w2 V := by rw [hV]; exact (Below.refl _ _).alloc (Nat.le_refl _) _
          obtain ⟨fb, hfb⟩ : ∃ fb, fb = w2.heap.size := ⟨_, rfl⟩
          have hfV : fb < V.heap.size := by rw [hfb, hV]; simp
          have f0 : V.cell? ⟨fb, 0, none⟩ = some (.int .i64 en) := by rw [hfb, hV]; simp
          have f1 : V.cell? ⟨fb, 1, none⟩ = some (.int .i64 ep) := by rw [hfb, hV]; simp
          have b23 := below_step b2 b3
          have hBV := below_trans hB1.out hB1.out.size b23
          refine (FW.out V hBV).mono ?_
          rintro e w4 ⟨⟨v, rfl, hv⟩, b4⟩
          have hb14 := below_step b23 b4
          have c0 := below_cell hb14 hwW1 c0
          have c1 := below_cell hb14 hwW1 c1
          have c2 := below_cell hb14 hwW1 c2
          have c3 := below_cell hb14 hwW1 c3
          have d0 := below_cell hb14 hwX1 d0
          have d1 := below_cell hb14 hwX1 d1
          have d2 := below_cell hb14 hwX1 d2
          have d3 := below_cell hb14 hwX1 d3
          have f0 := below_cell b4 hfV f0
          have f1 := below_cell b4 hfV f1
          have hB4 := below_trans HB.out HB.out.size (below_trans hBV hBV.size b4)
          have g4 := HG.out.below hB4
          have CI := fun (X : InC (Bel w4)) => is_any v en ep en ep X.w (g4.below X.ok) (hv.below X.ok)
          have HCI := Lib.hid CI
          have HB4 := Lib.hid hB4
          rw [← hfb]
          clear CI g4 hB4 hv hb14 b4 hBV b23 b3 b2 hV hfb RW FW
          simp only [beq_self_eq_true, Bool.and_self] at HCI
          go_wp2_with fail
          refine wp_region_in (S := Bel w4) (by kernel_rfl) (by kernel_rfl) (bel_drew (Below.refl _ _)) (fun hne => ?_)
          have x0 : ∀ X : InC (Bel w4), X.w.cell? ⟨w.heap.size, 0, none⟩ = some (.int .i64 k1) := fun X => X.cell c0
          have x1 : ∀ X : InC (Bel w4), X.w.cell? ⟨w.heap.size, 1, none⟩ = some (.int .i64 a1) := fun X => X.cell c1
          have x2 : ∀ X : InC (Bel w4), X.w.cell? ⟨w.heap.size, 2, none⟩ = some (.string s1) := fun X => X.cell c2
          have x3 : ∀ X : InC (Bel w4), X.w.cell? ⟨w.heap.size, 3, none⟩ = some (.int .i64 b1) := fun X => X.cell c3
          have y0 : ∀ X : InC (Bel w4), X.w.cell? ⟨w.heap.size + 1, 0, none⟩ = some (.int .i64 k2) := fun X => X.cell d0
          have y1 : ∀ X : InC (Bel w4), X.w.cell? ⟨w.heap.size + 1, 1, none⟩ = some (.int .i64 a2) := fun X => X.cell d1
          have y2 : ∀ X : InC (Bel w4), X.w.cell? ⟨w.heap.size + 1, 2, none⟩ = some (.string s2) := fun X => X.cell d2
          have y3 : ∀ X : InC (Bel w4), X.w.cell? ⟨w.heap.size + 1, 3, none⟩ = some (.int .i64 b2) := fun X => X.cell d3
          have z0 : ∀ X : InC (Bel w4), X.w.cell? ⟨fb, 0, none⟩ = some (.int .i64 en) := fun X => X.cell f0
          have z1 : ∀ X : InC (Bel w4), X.w.cell? ⟨fb, 1, none⟩ = some (.int .i64 ep) := fun X => X.cell f1
          repeat (go_big_quiet_step (first
            | (go_at_call 9; exact InC.call (HCI.out _))
            | (go_at_call 10; exact InC.call (CK1.out _))
            | (go_at_call 11; exact InC.call (CK2.out _))
            | (go_at_call 12; exact InC.call (CW1.out _))
            | (go_at_call 13; exact InC.call_same (CW2.out _))
            | (go_at_call 14; exact InC.call (CC.out _))))
          refine wpQuiet_nil ?_
          rintro _ ⟨X, rfl⟩
          have HX := Lib.hid (below_trans HB4.out HB4.out.size X.ok)
          clear x0 x1 x2 x3 y0 y1 y2 y3 z0 z1
          go_wp2_with fail
          go_loopw [12] (fun i wr => ∃ k : Nat, k ≤ l.length ∧ i = .int .i64 k ∧ Below w.heap.size w wr) (fun i _ => l.length - (intOf i).toNat)
          case atStart => exact ⟨0, Nat.zero_le _, rfl, HX.out⟩
          case round =>
            obtain ⟨k, hk, rfl, hB⟩ := hrel
            by_cases hlt : k < l.length
            · obtain ⟨b, f, n, a, s, m, x, y, u, g1, rfl, hb, e0, e1, e2, e3, e4, e5, e6⟩ := opsAt_get (HL.out.below hB) hlt
              have hz := HSZ.out _ (List.mem_of_getElem? g1.out)
              simp only at hz
              have CO1 := Lib.hid fun X => fop_any n a m x y s u X (by unfold maxLen; omega) (by unfold maxLen; omega)
              have CO2 := Lib.hid fun X => rop_any n a m x y s u X (by unfold maxLen; omega) (by unfold maxLen; omega)
              generalize opB ⟨⟨n, a, s, m⟩, x, y, u⟩ = ob at *
              have HBr := Lib.hid hB
              clear hB
              go_wp2_with fail
              refine wp_region_in (S := Bel wr) (by kernel_rfl) (by kernel_rfl) (bel_drew (Below.refl _ _)) (fun hne => ?_)
              have x0 : ∀ X : InC (Bel wr), X.w.cell? ⟨b, f + k * 7, none⟩ = some (.int .i64 n) := fun X => X.cell e0
              have x1 : ∀ X : InC (Bel wr), X.w.cell? ⟨b, f + k * 7 + 1, none⟩ = some (.int .i64 a) := fun X => X.cell e1
              have x2 : ∀ X : InC (Bel wr), X.w.cell? ⟨b, f + k * 7 + 2, none⟩ = some (.string s) := fun X => X.cell e2
              have x3 : ∀ X : InC (Bel wr), X.w.cell? ⟨b, f + k * 7 + 3, none⟩ = some (.int .i64 m) := fun X => X.cell e3
              have x4 : ∀ X : InC (Bel wr), X.w.cell? ⟨b, f + k * 7 + 4, none⟩ = some (.int .i64 x) := fun X => X.cell e4
              have x5 : ∀ X : InC (Bel wr), X.w.cell? ⟨b, f + k * 7 + 5, none⟩ = some (.int .i64 y) := fun X => X.cell e5
              have x6 : ∀ X : InC (Bel wr), X.w.cell? ⟨b, f + k * 7 + 6, none⟩ = some (.string u) := fun X => X.cell e6
              repeat (go_big_quiet_step (first
                | (go_at_call 15; exact InC.call (CO1.out _))
                | (go_at_call 16; exact InC.call (CO2.out _))))
              refine wpQuiet_nil ?_
              rintro _ ⟨X, rfl⟩
              have hX := below_trans HBr.out HBr.out.size X.ok
              clear x0 x1 x2 x3 x4 x5 x6
              go_wp2_with fail
              exact ⟨⟨k + 1, by omega, by go_num, hX⟩, by simp [intOf]; omega⟩
            · have HBr := Lib.hid hB
              clear hB
              go_wp2
              go_ret
              exact ⟨rfl, HBr.out⟩
      · go_enter Tryd.func3, Tryd.ntmps3
        go_wp2_with fail
        rw [← HW.out]
        go_wp2_with (go_at_call 5; refine HS.out.mono ?_; rintro e w1 ⟨rfl, rfl⟩)
        go_ret
        exact ⟨rfl, HB.out⟩
    · go_enter Tryd.func3, Tryd.ntmps3
      go_wp2_with fail
      rw [← HW.out]
      go_wp2_with (go_at_call 5; refine HS.out.mono ?_; rintro e w1 ⟨rfl, rfl⟩)
      go_ret
      exact ⟨rfl, HB.out⟩
end Go.Proofs.YtjgmgaleaihjpaaDoor
