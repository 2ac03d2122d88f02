/- The document's tree: a span of a number is put in. -/
import Derived.Test.YtgbbldbkkmjedaaDoorRefB
import Derived.Test.YtgbbldbkkmjedaaDoorDag2
namespace Go.Proofs.YtgbbldbkkmjedaaDoor
open Go.RowKit Go.Shelf Go.Sort

theorem own_built1 {e : TypeId} {size : Nat} (w : World) (o : Obj) : ((w.alloc o).alloc (.cells #[] e)).ownsRow w.heap.size e size (.slice (some ⟨w.heap.size + 1, 0, none⟩) 0 0) 0 [] := by
  have := own_built (e := e) (size := size) (base := w.heap.size) (w.alloc o) (by simp)
  simpa using this
theorem cell_row_kept {w w' : World} {row : Option Nat} (h : w.grownBy w' row) {g : Nat} (hg : g < w.heap.size) (hr : some g ≠ row) (j : Nat) : w'.cell? ⟨g, j, none⟩ = w.cell? ⟨g, j, none⟩ :=
  World.cell?_of_block (a := ⟨g, j, none⟩) (h.block g hg hr)
theorem block_keep {w : World} {e : TypeId} (g : Nat) {j : Nat} {u : Value} (hg : g < w.heap.size) (h : w.cell? ⟨g, j, none⟩ = some u) : (w.alloc (.cells #[] e)).cell? ⟨g, j, none⟩ = some u := by
  rw [World.cell?_alloc_lt _ _ ⟨g, j, none⟩ hg]; exact h
theorem row_new0 (w : World) (cs : Array Value) (e : TypeId) (j : Nat) (u : Value) (h : cs.toList[j]? = some u) : (w.alloc (.cells cs e)).cell? ⟨w.heap.size, j, none⟩ = some u := by
  rw [block_cell (block_alloc_new w _) j]; simpa using h
theorem row_new1 (w : World) (cs : Array Value) (e e' : TypeId) (j : Nat) (u : Value) (h : cs.toList[j]? = some u) : ((w.alloc (.cells cs e)).alloc (.cells #[] e')).cell? ⟨w.heap.size, j, none⟩ = some u := by
  rw [block_cell (block_alloc (block_alloc_new w _) _) j]; simpa using h
theorem row_new2 (w : World) (cs : Array Value) (e : TypeId) (e' : TypeId) (j : Nat) (u : Value) (h : cs.toList[j]? = some u) : ((w.alloc (.cells #[] e')).alloc (.cells cs e)).cell? ⟨w.heap.size + 1, j, none⟩ = some u := by
  have := row_new0 (w.alloc (.cells #[] e')) cs e j u h
  simpa using this

set_option maxRecDepth 100000 in
set_option maxHeartbeats 16000000 in
theorem radd_ok (id f t : Int) (w : World) (base wb : Nat) (R : List It) (vi vs : Value) (h : RefAt w base wb R vi vs) (hlen : R.length < 4000) (h0 : 0 ≤ id) (h1 : id ≤ 1048576) (hr : rightB f t = true) (hx : hasR R id = false)
    (b cap b2 cap2 : Nat) (hvi : vi = .slice (some ⟨b, 0, none⟩) R.length cap) (hvs : vs = .slice (some ⟨b2, 0, none⟩) R.length cap2)
    (hF : ∀ W, Below w.heap.size w W → Calls Tryd.prog 54 #[.pointer (some ⟨wb, 0, none⟩), .int .i64 id] W fun e w' => e = .returned (.tuple #[.int .i64 (posR R id : Int), .bool (hasR R id)]) ∧ Below W.heap.size W w') :
    Calls Tryd.prog 9 #[.pointer (some ⟨wb, 0, none⟩), .int .i64 id, .agg #[.int .i64 f, .int .i64 t]] w (RDone base wb (putR R (f, id, t)) 0 w) := by
  subst hvi hvs
  rw [hx] at hF
  have hI := fun W => in_any id 0 1048576 W
  have hRR := fun W => rright_any f t W
  rw [hr] at hRR
  have hid : inB id 0 1048576 = true := by unfold inB; simp; omega
  rw [hid] at hI
  have hk : posR R id ≤ R.length := posR_le R id
  have hh := h.ids
  have hh2 := h.sps
  have hcap : R.length ≤ cap := by
    rcases hh.2 with ⟨e, hn⟩ | ⟨g, cap', cur, e, _, _, hnc, _⟩
    · cases e
    · cases e; exact hnc
  have hcap2 : R.length ≤ cap2 := by
    rcases hh2.2 with ⟨e, hn⟩ | ⟨g, cap', cur, e, _, _, hnc, _⟩
    · cases e
    · cases e; exact hnc
  have hwl : wb < w.heap.size := Nat.lt_of_lt_of_le h.lt h.hb
  obtain ⟨i0, hi0, hz0, hz1, hz2⟩ := info_parts infoInt
  obtain ⟨i1, hi1, hy0, hy1, hy2⟩ := info_parts infoSpan
  have HH := Lib.hid h
  have HE1 := Lib.hid (idsR_put R (f, id, t))
  have HE2 := Lib.hid (spsR_put R (f, id, t))
  have HLT := Lib.hid (putR_length R (f, id, t))
  have hlr := idsR_length R
  have hls := spsR_length R
  generalize hkk : posR R id = k at *
  have HKK := Lib.hid hkk
  have hk0 : (0 : Int) ≤ (k : Int) := by omega
  have hkr : (k : Int) ≤ (R.length : Int) := by omega
  have hk1 : (k : Int) ≤ (cap : Int) := by omega
  have hk2 : (k : Int) ≤ (cap2 : Int) := by omega
  have hk3 : k ≤ cap := by omega
  have hk4 : k ≤ cap2 := by omega
  have hl4 : decide ((4000 : Int) ≤ (R.length : Int)) = false := by simp; omega
  obtain ⟨ad1, hif1⟩ : ∃ ad : Addr, (if cap = k then some (⟨b, 0, none⟩ : Addr) else some ⟨b, k, none⟩) = some ad := by split <;> exact ⟨_, rfl⟩
  obtain ⟨ad2, hif2⟩ : ∃ ad : Addr, (if cap2 = k then some (⟨b2, 0, none⟩ : Addr) else some ⟨b2, k * 2, none⟩) = some ad := by split <;> exact ⟨_, rfl⟩
  have HI1 := Lib.hid hif1
  have HI2 := Lib.hid hif2
  have HF := Lib.hid hF
  clear h hh hh2 hx hr hid hF hkk
  go_enter Tryd.func9, Tryd.ntmps9
  go_wp2_with fail
  refine (hI _).mono ?_
  rintro e w1 ⟨rfl, rfl⟩
  have k1 : (w.alloc (.cells #[.int .i64 f, .int .i64 t] 34)).cell? ⟨w.heap.size, 0, none⟩ = some (.int .i64 f) := by simp
  have k2 : (w.alloc (.cells #[.int .i64 f, .int .i64 t] 34)).cell? ⟨w.heap.size, 1, none⟩ = some (.int .i64 t) := by simp
  have B0 : Below w.heap.size w (w.alloc (.cells #[.int .i64 f, .int .i64 t] 34)) := (Below.refl _ _).alloc (Nat.le_refl _) _
  have hs0 : (w.alloc (.cells #[.int .i64 f, .int .i64 t] 34)).heap.size = w.heap.size + 1 := by simp
  generalize w.alloc (.cells #[.int .i64 f, .int .i64 t] 34) = w0 at *
  go_wp2_with fail
  refine (hRR _).mono ?_
  rintro e w2 ⟨rfl, b2'⟩
  have B2 := B0.trans (b2'.mono (by omega))
  have k1' := below_cell b2' (by omega) k1
  have k2' := below_cell b2' (by omega) k2
  have hs2 := b2'.size
  clear b2' k1 k2 B0
  go_wp2_with fail
  refine (HF.out _ B2).mono ?_
  rintro e w1 ⟨rfl, b1⟩
  have k1 := below_cell b1 (by omega) k1'
  have k2 := below_cell b1 (by omega) k2'
  have hB := B2.trans (b1.mono B2.size)
  have hc1 := hB.block wb hwl
  rw [HH.out.cells] at hc1
  obtain ⟨c0, c1, f0, f1⟩ := rt_cells hc1
  have h1 := HH.out.below hB
  have HB := Lib.hid hB
  obtain ⟨hci, hbl⟩ := ids_cells h1.ids
  have HCI := Lib.hid hci
  have H1 := Lib.hid h1
  have hs1 := b1.size
  have hwl1 : wb < w1.heap.size := by omega
  have hbx : w.heap.size < w1.heap.size := by omega
  have hA1 : ∀ V, Below w1.heap.size w1 V → ∀ j u, (((idsR R).drop k).map (Value.int .i64))[j]? = some u → V.cell? (ad1.add j) = some u := fun V hV => by
    rcases Nat.eq_or_lt_of_le (show k ≤ cap by omega) with hce | hce
    · exact ids_none (by omega) _
    · have hi := HI1.out
      rw [if_neg (by omega)] at hi
      cases hi
      exact ids_drop HCI.out hbl hV k
  have HA1 := Lib.hid hA1
  clear hA1
  clear b1 hc1 h1 hci B2 hB k1' k2' hI hRR
  go_wp2_with fail
  obtain ⟨Q1, hQ1⟩ : ∃ Q : Exit → Act → World → Prop, Q = fun e a W => e = .normal ∧ (∃ x28 x29 x30 x31 x32 x33 x34 x35 x36 x37 x38 x39 x40 x41 x42 x43 x44 x45 x46 x47 x48, a = ⟨#[.pointer (some ⟨wb, 0, none⟩), .int .i64 id, .agg #[.int .i64 f, .int .i64 t], undef, undef, .pointer (some ⟨w.heap.size, 0, none⟩), .int .i64 0, .int .i64 k, .bool false, .int .i64 id, .bool true, .bool false, .agg #[.int .i64 f, .int .i64 t], .bool true, .bool false, .tuple #[.int .i64 k, .bool false], .pointer (some ⟨wb, 0, none⟩), .int .i64 id, .tuple #[.int .i64 k, .bool false], .int .i64 k, .bool false, .bool false, .pointer (some ⟨wb, 0, none⟩), .pointer (some ⟨wb, 0, none⟩), .pointer (some ⟨wb, 0, none⟩), .slice (some ⟨b, 0, none⟩) R.length cap, .int .i64 R.length, .bool false, x28, x29, x30, x31, x32, x33, x34, x35, x36, x37, x38, x39, x40, x41, x42, x43, x44, x45, x46, x47, x48, undef, undef, undef, undef, undef, undef, undef, undef, undef, undef, undef, undef, undef, undef, undef, undef, undef, undef, undef, undef, undef], []⟩) ∧ RMid w wb ((idsR R).take k ++ id :: (idsR R).drop k) (.slice (some ⟨b2, 0, none⟩) R.length cap2) W ∧ Fr (· = wb) w1 W := ⟨_, rfl⟩
  have HQ1 := Lib.hid hQ1
  clear hQ1
  refine Code.wp_mono (Q := NoPanic Q1) ?_ ?_
  rotate_left
  · skip
    refine wp_region_rest 28 21 6 _ [true, false, true, true, true, true, true, true, false, true, false, false, true, true, true, true, true, true, false, true, true] [.pointer (some ⟨wb, 0, none⟩), undef, .pointer (some ⟨wb, 0, none⟩), .pointer (some ⟨wb, 0, none⟩), .pointer (some ⟨wb, 0, none⟩), .slice (some ⟨b, 0, none⟩) R.length cap, .int .i64 k, .slice (some ⟨b, 0, none⟩) k cap, undef, .int .i64 id, undef, undef, .pointer (some ⟨wb, 0, none⟩), .pointer (some ⟨wb, 0, none⟩), .pointer (some ⟨wb, 0, none⟩), .slice (some ⟨b, 0, none⟩) R.length cap, .int .i64 k, .slice (some ad1) (R.length - k) (cap - k), undef, .pointer (some ⟨wb, 0, none⟩), .pointer (some ⟨wb, 0, none⟩)] (fun V => Below w1.heap.size w1 V) rfl rfl (by kernel_rfl) (by kernel_rfl) (by kernel_rfl) rfl (by kernel_rfl) (Below.refl _ _).drew ?_ #[true, false, true, true, true, true, true, true, false, true, false, false, true, true, true, true, true, true, false, true, true, false] [.pointer (some ⟨wb, 0, none⟩), .int .i64 id, .agg #[.int .i64 f, .int .i64 t], undef, undef, .pointer (some ⟨w.heap.size, 0, none⟩), .int .i64 0, .int .i64 k, .bool false, .int .i64 id, .bool true, .bool false, .agg #[.int .i64 f, .int .i64 t], .bool true, .bool false, .tuple #[.int .i64 k, .bool false], .pointer (some ⟨wb, 0, none⟩), .int .i64 id, .tuple #[.int .i64 k, .bool false], .int .i64 k, .bool false, .bool false, .pointer (some ⟨wb, 0, none⟩), .pointer (some ⟨wb, 0, none⟩), .pointer (some ⟨wb, 0, none⟩), .slice (some ⟨b, 0, none⟩) R.length cap, .int .i64 R.length, .bool false, .pointer (some ⟨wb, 0, none⟩), undef, .pointer (some ⟨wb, 0, none⟩), .pointer (some ⟨wb, 0, none⟩), .pointer (some ⟨wb, 0, none⟩), .slice (some ⟨b, 0, none⟩) R.length cap, .int .i64 k, .slice (some ⟨b, 0, none⟩) k cap, undef, .int .i64 id, undef, undef, .pointer (some ⟨wb, 0, none⟩), .pointer (some ⟨wb, 0, none⟩), .pointer (some ⟨wb, 0, none⟩), .slice (some ⟨b, 0, none⟩) R.length cap, .int .i64 k, .slice (some ad1) (R.length - k) (cap - k), undef, .pointer (some ⟨wb, 0, none⟩), .pointer (some ⟨wb, 0, none⟩), undef, undef, undef, undef, undef, undef, undef, undef, undef, undef, undef, undef, undef, undef, undef, undef, undef, undef, undef, undef, undef] (by kernel_rfl) rfl ?_
    · simp only [List.take_succ_cons, List.take_zero, PureSteps, and_true]
      refine ⟨fun _ => ?_, fun h => absurd h (by decide), fun _ => ?_, fun _ => ?_, fun _ => ?_, fun _ => ?_, fun _ => ?_, fun _ => ?_, fun h => absurd h (by decide), fun _ => ?_, fun h => absurd h (by decide), fun h => absurd h (by decide), fun _ => ?_, fun _ => ?_, fun _ => ?_, fun _ => ?_, fun _ => ?_, fun _ => ?_, fun h => absurd h (by decide), fun _ => ?_, fun _ => ?_⟩
      · intro A V hC hP hd
        have eP0 : A.tmps[0]?.getD undef = .pointer (some ⟨wb, 0, none⟩) := evalT (hP 0 (of_decide_eq_true rfl))
        clear hC hP hd
        show _ = Result.ok (Next.value (.pointer (some ⟨wb, 0, none⟩))) V
        go_simp
      · intro A V hC hP hd
        have eP0 : A.tmps[0]?.getD undef = .pointer (some ⟨wb, 0, none⟩) := evalT (hP 0 (of_decide_eq_true rfl))
        clear hC hP hd
        show _ = Result.ok (Next.value (.pointer (some ⟨wb, 0, none⟩))) V
        go_simp
      · intro A V hC hP hd
        have e2 : A.tmps[30]?.getD undef = .pointer (some ⟨wb, 0, none⟩) := evalT (hd 2 (by kernel_rfl) rfl)
        clear hC hP hd
        show _ = Result.ok (Next.value (.pointer (some ⟨wb, 0, none⟩))) V
        go_simp
      · intro A V hC hP hd
        have e3 : A.tmps[31]?.getD undef = .pointer (some ⟨wb, 0, none⟩) := evalT (hd 3 (by kernel_rfl) rfl)
        clear hC hP hd
        show _ = Result.ok (Next.value (.pointer (some ⟨wb, 0, none⟩))) V
        go_simp
      · intro A V hC hP hd
        have e4 : A.tmps[32]?.getD undef = .pointer (some ⟨wb, 0, none⟩) := evalT (hd 4 (by kernel_rfl) rfl)
        have c0' := below_cell hC hwl1 c0
        clear hC hP hd
        show _ = Result.ok (Next.value (.slice (some ⟨b, 0, none⟩) R.length cap)) V
        go_simp
      · intro A V hC hP hd
        have eP7 : A.tmps[7]?.getD undef = .int .i64 k := evalT (hP 7 (of_decide_eq_true rfl))
        clear hC hP hd
        show _ = Result.ok (Next.value (.int .i64 k)) V
        go_simp
      · intro A V hC hP hd
        have e5 : A.tmps[33]?.getD undef = .slice (some ⟨b, 0, none⟩) R.length cap := evalT (hd 5 (by kernel_rfl) rfl)
        have e6 : A.tmps[34]?.getD undef = .int .i64 k := evalT (hd 6 (by kernel_rfl) rfl)
        clear hC hP hd
        show _ = Result.ok (Next.value (.slice (some ⟨b, 0, none⟩) k cap)) V
        go_simp
      · intro A V hC hP hd
        have eP1 : A.tmps[1]?.getD undef = .int .i64 id := evalT (hP 1 (of_decide_eq_true rfl))
        clear hC hP hd
        show _ = Result.ok (Next.value (.int .i64 id)) V
        go_simp
      · intro A V hC hP hd
        have eP0 : A.tmps[0]?.getD undef = .pointer (some ⟨wb, 0, none⟩) := evalT (hP 0 (of_decide_eq_true rfl))
        clear hC hP hd
        show _ = Result.ok (Next.value (.pointer (some ⟨wb, 0, none⟩))) V
        go_simp
      · intro A V hC hP hd
        have e12 : A.tmps[40]?.getD undef = .pointer (some ⟨wb, 0, none⟩) := evalT (hd 12 (by kernel_rfl) rfl)
        clear hC hP hd
        show _ = Result.ok (Next.value (.pointer (some ⟨wb, 0, none⟩))) V
        go_simp
      · intro A V hC hP hd
        have e13 : A.tmps[41]?.getD undef = .pointer (some ⟨wb, 0, none⟩) := evalT (hd 13 (by kernel_rfl) rfl)
        clear hC hP hd
        show _ = Result.ok (Next.value (.pointer (some ⟨wb, 0, none⟩))) V
        go_simp
      · intro A V hC hP hd
        have e14 : A.tmps[42]?.getD undef = .pointer (some ⟨wb, 0, none⟩) := evalT (hd 14 (by kernel_rfl) rfl)
        have c0' := below_cell hC hwl1 c0
        clear hC hP hd
        show _ = Result.ok (Next.value (.slice (some ⟨b, 0, none⟩) R.length cap)) V
        go_simp
      · intro A V hC hP hd
        have eP7 : A.tmps[7]?.getD undef = .int .i64 k := evalT (hP 7 (of_decide_eq_true rfl))
        clear hC hP hd
        show _ = Result.ok (Next.value (.int .i64 k)) V
        go_simp
      · intro A V hC hP hd
        have e15 : A.tmps[43]?.getD undef = .slice (some ⟨b, 0, none⟩) R.length cap := evalT (hd 15 (by kernel_rfl) rfl)
        have e16 : A.tmps[44]?.getD undef = .int .i64 k := evalT (hd 16 (by kernel_rfl) rfl)
        have hif := HI1.out
        clear hC hP hd
        show _ = Result.ok (Next.value (.slice (some ad1) (R.length - k) (cap - k))) V
        go_simp
      · intro A V hC hP hd
        have e0 : A.tmps[28]?.getD undef = .pointer (some ⟨wb, 0, none⟩) := evalT (hd 0 (by kernel_rfl) rfl)
        clear hC hP hd
        show _ = Result.ok (Next.value (.pointer (some ⟨wb, 0, none⟩))) V
        go_simp
      · intro A V hC hP hd
        have e19 : A.tmps[47]?.getD undef = .pointer (some ⟨wb, 0, none⟩) := evalT (hd 19 (by kernel_rfl) rfl)
        clear hC hP hd
        show _ = Result.ok (Next.value (.pointer (some ⟨wb, 0, none⟩))) V
        go_simp
    refine wpRest_tail (n := 3) (Φ := fun L A V => ∃ (u29 v36 : Value) (g : Nat), L = #[true, true, true, true, true, true, true, true, true, true, true, false, true, true, true, true, true, true, false, true, true, false] ∧ A = ⟨#[.pointer (some ⟨wb, 0, none⟩), .int .i64 id, .agg #[.int .i64 f, .int .i64 t], undef, undef, .pointer (some ⟨w.heap.size, 0, none⟩), .int .i64 0, .int .i64 k, .bool false, .int .i64 id, .bool true, .bool false, .agg #[.int .i64 f, .int .i64 t], .bool true, .bool false, .tuple #[.int .i64 k, .bool false], .pointer (some ⟨wb, 0, none⟩), .int .i64 id, .tuple #[.int .i64 k, .bool false], .int .i64 k, .bool false, .bool false, .pointer (some ⟨wb, 0, none⟩), .pointer (some ⟨wb, 0, none⟩), .pointer (some ⟨wb, 0, none⟩), .slice (some ⟨b, 0, none⟩) R.length cap, .int .i64 R.length, .bool false, .pointer (some ⟨wb, 0, none⟩), u29, .pointer (some ⟨wb, 0, none⟩), .pointer (some ⟨wb, 0, none⟩), .pointer (some ⟨wb, 0, none⟩), .slice (some ⟨b, 0, none⟩) R.length cap, .int .i64 k, .slice (some ⟨b, 0, none⟩) k cap, v36, .int .i64 id, .slice (some ⟨g, 0, none⟩) 1 1, undef, .pointer (some ⟨wb, 0, none⟩), .pointer (some ⟨wb, 0, none⟩), .pointer (some ⟨wb, 0, none⟩), .slice (some ⟨b, 0, none⟩) R.length cap, .int .i64 k, .slice (some ad1) (R.length - k) (cap - k), undef, .pointer (some ⟨wb, 0, none⟩), .pointer (some ⟨wb, 0, none⟩), undef, undef, undef, undef, undef, undef, undef, undef, undef, undef, undef, undef, undef, undef, undef, undef, undef, undef, undef, undef, undef], []⟩ ∧ Below w1.heap.size w1 V ∧ V.ownsRow w1.heap.size 3 1 v36 (0 + k) ([] ++ (((idsR R).take k).map (Value.int .i64))) ∧ (∀ j u, ([.int .i64 id] : List Value)[j]? = some u → V.cell? ⟨g, j, none⟩ = some u)) ?_ (fun tail => ?_)
    · rintro L A V ⟨u29, v36, g, rfl, rfl, hC, ho, hg⟩
      refine wpRest_step (rs := [11]) (by kernel_rfl) ⟨rest_one rfl (by decide) ?_, trivial⟩
      refine val_append_own _ _ 28 rfl w1.heap.size 3 i0 (.int .i64 0) 1 8 Tryd.underlying28 hi0 hz0 hz1 hz2 rfl (by decide) v36 (0 + k) _ rfl ho ⟨g, 0, none⟩ 1 1 [.int .i64 id] rfl rfl (fun j u hu => by rw [Addr.add_lit, Nat.zero_add]; exact hg j u hu) (by simp [Value.oneCell']) (by unfold maxLen; omega) (by omega) hC.size ?_
      intro v39 V6 ho6 hgr6
      have hC6 : Below w1.heap.size w1 V6 := hC.grown hgr6 hC.size (fun q hq => (ho.lt q hq).1)
      refine ⟨hC6, ?_⟩
      simp only [Act.put, List.setIfInBounds_toArray, List.set_cons_zero, List.set_cons_succ]
      refine wpRest_step (rs := [18]) (by kernel_rfl) ⟨rest_one rfl (by decide) ?_, trivial⟩
      refine val_append_own _ _ 28 rfl w1.heap.size 3 i0 (.int .i64 0) 1 8 Tryd.underlying28 hi0 hz0 hz1 hz2 rfl (by decide) v39 (0 + k + 1) _ rfl ho6 ad1 (R.length - k) _ (((idsR R).drop k).map (Value.int .i64)) rfl (by simp; omega) (HA1.out _ hC6) (ints_one _) (by unfold maxLen; omega) (by omega) hC6.size ?_
      intro v46 V7 ho7 hgr7
      have hC7 : Below w1.heap.size w1 V7 := hC6.grown hgr7 hC6.size (fun q hq => (ho6.lt q hq).1)
      refine ⟨hC7, ?_⟩
      simp only [Act.put, List.setIfInBounds_toArray, List.set_cons_zero, List.set_cons_succ]
      obtain ⟨a7, q7, rfl, _, _⟩ := ownsRow_slice ho7
      have c7 := below_cell hC7 hwl1 c0
      have f7 := below_frozen hC7 hwl1 f0
      refine wpRest_step (rs := [21]) (by kernel_rfl) ⟨rest_last rfl ?_, trivial⟩
      refine operVal_intro fun K hK => ?_
      unfold operVal
      have HO7 := Lib.hid ho7
      have HC7 := Lib.hid hC7
      clear ho7 hC7 hgr7 ho6 hgr6 hC6 ho hg hC
      go_simp
      refine hK _ _ ?_
      refine NoPanic.normal ?_
      rw [HQ1.out]
      refine ⟨rfl, ⟨_, _, _, _, _, _, _, _, _, _, _, _, _, _, _, _, _, _, _, _, _, rfl⟩, ?_, Fr.setCell (F := (· = wb)) (Fr.new HC7.out) (p := ⟨wb, 0, none⟩) (fun _ => rfl) _⟩
      have h7 := HO7.out
      simp only [Nat.zero_add] at h7
      exact rmid HH.out HB.out HC7.out h7 (by simp; omega) (by simp) (fun e => by have := (Value.slice.inj e).2.1; omega)
    refine wpRest_step (rs := [1, 10]) (by kernel_rfl) ⟨rest_one rfl (by decide) ?_, rest_one rfl (by decide) ?_, trivial⟩
    · refine operVal_intro fun K hK => ?_
      unfold operVal
      go_simp
      obtain ⟨V, hV⟩ : ∃ V, V = (w1.alloc (.cells #[] 3)).drew := ⟨_, rfl⟩
      have hC : Below w1.heap.size w1 V := by rw [hV]; exact ((Below.refl _ _).alloc (Nat.le_refl _) _).drew
      have ho : V.ownsRow w1.heap.size 3 1 (.slice (some ⟨w1.heap.size, 0, none⟩) 0 0) (0) ([]) := by rw [hV]; exact own_built w1 (Nat.le_refl _)
      have hs : V.heap.size = w1.heap.size + 1 := by rw [hV]; simp
      refine hK _ _ ⟨(by first | exact hC | (rw [hV] at hC; exact hC)), ?_⟩
      simp only [Act.put, List.setIfInBounds_toArray, List.set_cons_zero, List.set_cons_succ]
      first | rw [← hV] | skip
      refine wpRest_step (rs := [8, 10]) (by kernel_rfl) ⟨rest_one rfl (by decide) ?_, rest_one rfl (by decide) ?_, trivial⟩
      · refine val_append_own _ _ 28 rfl w1.heap.size 3 i0 (.int .i64 0) 1 8 Tryd.underlying28 hi0 hz0 hz1 hz2 rfl (by decide) _ 0 [] rfl ho ⟨b, 0, none⟩ k _ (((idsR R).take k).map (Value.int .i64)) rfl (by simp; omega) (ids_take HCI.out hbl hC k) (ints_one _) (by unfold maxLen; omega) (by omega) hC.size ?_
        intro v36 V5 ho5 hgr5
        have hC5 : Below w1.heap.size w1 V5 := hC.grown hgr5 hC.size (fun q hq => (ho.lt q hq).1)
        refine ⟨hC5, ?_⟩
        simp only [Act.put, List.setIfInBounds_toArray, List.set_cons_zero, List.set_cons_succ]
        refine wpRest_step (rs := [10]) (by kernel_rfl) ⟨rest_one rfl (by decide) ?_, trivial⟩
        refine operVal_intro fun K hK => ?_
        unfold operVal
        have HO5 := Lib.hid ho5
        have HC5 := Lib.hid hC5
        clear ho5 hC5 hgr5 ho hC hV
        go_simp
        refine hK _ _ ⟨HC5.out.alloc HC5.out.size _, ?_⟩
        simp only [Act.put, List.setIfInBounds_toArray, List.set_cons_zero, List.set_cons_succ]
        exact tail _ _ _ ⟨_, v36, _, rfl, rfl, (HC5.out.alloc HC5.out.size _), (HO5.out.alloc _), (fun j u hu => row_new0 V5 #[.int .i64 id] 3 j u hu)⟩
      · refine operVal_intro fun K hK => ?_
        unfold operVal
        have HO := Lib.hid ho
        have HC := Lib.hid hC
        have HS := Lib.hid hs
        clear ho hC hV hs
        go_simp
        refine hK _ _ ⟨HC.out.alloc HC.out.size _, ?_⟩
        simp only [Act.put, List.setIfInBounds_toArray, List.set_cons_zero, List.set_cons_succ]
        have hC := HC.out.alloc HC.out.size (.cells #[.int .i64 id] 3)
        refine wpRest_step (rs := [8]) (by kernel_rfl) ⟨rest_one rfl (by decide) ?_, trivial⟩
        refine val_append_own _ _ 28 rfl w1.heap.size 3 i0 (.int .i64 0) 1 8 Tryd.underlying28 hi0 hz0 hz1 hz2 rfl (by decide) _ 0 [] rfl (HO.out.alloc _) ⟨b, 0, none⟩ k _ (((idsR R).take k).map (Value.int .i64)) rfl (by simp; omega) (ids_take HCI.out hbl hC k) (ints_one _) (by unfold maxLen; omega) (by omega) hC.size ?_
        intro v36 V5 ho5 hgr5
        have hC5 : Below w1.heap.size w1 V5 := hC.grown hgr5 hC.size (fun q hq => (HO.out.lt q hq).1)
        refine ⟨hC5, ?_⟩
        simp only [Act.put, List.setIfInBounds_toArray, List.set_cons_zero, List.set_cons_succ]
        exact tail _ _ _ ⟨_, v36, _, rfl, rfl, hC5, ho5, (fun j u hu => (cell_row_kept hgr5 (by simp) (fun e => by have := Option.some.inj e; have := HS.out; simp only at *; omega) j).trans (row_new0 V #[.int .i64 id] 3 j u hu))⟩
    · refine operVal_intro fun K hK => ?_
      unfold operVal
      go_simp
      obtain ⟨V, hV⟩ : ∃ V, V = (w1.alloc (.cells #[.int .i64 id] 3)).drew := ⟨_, rfl⟩
      have hC0 : Below w1.heap.size w1 V := by rw [hV]; exact ((Below.refl _ _).alloc (Nat.le_refl _) _).drew
      have hg : ∀ j u, ([.int .i64 id] : List Value)[j]? = some u → V.cell? ⟨w1.heap.size, j, none⟩ = some u := by rw [hV]; exact fun j u hu => row_new0 w1 #[.int .i64 id] 3 j u hu
      have hs : V.heap.size = w1.heap.size + 1 := by rw [hV]; simp
      refine hK _ _ ⟨(by first | exact hC0 | (rw [hV] at hC0; exact hC0)), ?_⟩
      simp only [Act.put, List.setIfInBounds_toArray, List.set_cons_zero, List.set_cons_succ]
      first | rw [← hV] | skip
      refine wpRest_step (rs := [1]) (by kernel_rfl) ⟨rest_one rfl (by decide) ?_, trivial⟩
      refine operVal_intro fun K hK => ?_
      unfold operVal
      have HC0 := Lib.hid hC0
      have HG := Lib.hid hg
      have HS := Lib.hid hs
      clear hC0 hg hV hs
      go_simp
      refine hK _ _ ⟨HC0.out.alloc HC0.out.size _, ?_⟩
      simp only [Act.put, List.setIfInBounds_toArray, List.set_cons_zero, List.set_cons_succ]
      have hC := HC0.out.alloc HC0.out.size (.cells #[] 3)
      refine wpRest_step (rs := [8]) (by kernel_rfl) ⟨rest_one rfl (by decide) ?_, trivial⟩
      refine val_append_own _ _ 28 rfl w1.heap.size 3 i0 (.int .i64 0) 1 8 Tryd.underlying28 hi0 hz0 hz1 hz2 rfl (by decide) _ 0 [] rfl (own_built V HC0.out.size) ⟨b, 0, none⟩ k _ (((idsR R).take k).map (Value.int .i64)) rfl (by simp; omega) (ids_take HCI.out hbl hC k) (ints_one _) (by unfold maxLen; omega) (by omega) hC.size ?_
      intro v36 V5 ho5 hgr5
      have hC5 : Below w1.heap.size w1 V5 := hC.grown hgr5 hC.size (fun q hq => by cases hq; exact HC0.out.size)
      refine ⟨hC5, ?_⟩
      simp only [Act.put, List.setIfInBounds_toArray, List.set_cons_zero, List.set_cons_succ]
      exact tail _ _ _ ⟨_, v36, _, rfl, rfl, hC5, ho5, (fun j u hu => (cell_row_kept hgr5 (by simp; have := HS.out; omega) (fun e => by have := Option.some.inj e; have := HS.out; simp only at *; omega) j).trans (block_keep w1.heap.size (by have := HS.out; omega) (HG.out j u hu)))⟩
  intro e a W hq
  obtain ⟨rfl, ⟨x28, x29, x30, x31, x32, x33, x34, x35, x36, x37, x38, x39, x40, x41, x42, x43, x44, x45, x46, x47, x48, rfl⟩, hm, hF1⟩ := (by have := NoPanic.imp _ _ _ hq; rw [HQ1.out] at this; exact this)
  clear hq HQ1
  have HM := Lib.hid hm
  obtain ⟨vi', hcm, hom, hFm, hvm⟩ := hm
  clear hom hvm
  have hsp := ownsRow_fr HH.out.sps hFm (fun q hq e => by subst e; have := (HH.out.sps.lt _ hq).1; have := HH.out.lt; omega)
  obtain ⟨ax, cx, ex, hspA⟩ := ownsRow_spans hsp
  obtain ⟨ex1, ex2, ex3⟩ := Value.slice.inj ex
  subst ex1
  clear ex ex2 ex3
  have HCI := Lib.hid hspA
  obtain ⟨c0, c1, f0, f1⟩ := rt_cells hcm
  have hwx : w.heap.size ≠ wb := by omega
  have k1 := (World.cell?_of_block (a := ⟨w.heap.size, 0, none⟩) (hF1.block w.heap.size hbx hwx)).trans k1
  have k2 := (World.cell?_of_block (a := ⟨w.heap.size, 1, none⟩) (hF1.block w.heap.size hbx hwx)).trans k2
  have hwl1 : wb < W.heap.size := by have := hFm.size; omega
  have hbx : w.heap.size < W.heap.size := by have := hF1.size; omega
  have hA2 : ∀ V, Below W.heap.size W V → ∀ j u, (flat ((spsR R).drop k))[j]? = some u → V.cell? (ad2.add j) = some u := fun V hV => by
    rcases Nat.eq_or_lt_of_le (show k ≤ cap2 by omega) with hce | hce
    · exact sps_none (by omega) _
    · have hi := HI2.out
      rw [if_neg (by omega)] at hi
      cases hi
      exact sps_drop HCI.out hV k
  have HA2 := Lib.hid hA2
  clear hcm hFm hsp hspA hF1 hA2
  go_wp2_with fail
  obtain ⟨Q2, hQ2⟩ : ∃ Q : Exit → Act → World → Prop, Q = fun e a W6 => e = .normal ∧ (∃ y49 y50 y51 y52 y53 y54 y55 y56 y57 y58 y59 y60 y61 y62 y63 y64 y65 y66 y67 y68 y69, a = ⟨#[.pointer (some ⟨wb, 0, none⟩), .int .i64 id, .agg #[.int .i64 f, .int .i64 t], undef, undef, .pointer (some ⟨w.heap.size, 0, none⟩), .int .i64 0, .int .i64 k, .bool false, .int .i64 id, .bool true, .bool false, .agg #[.int .i64 f, .int .i64 t], .bool true, .bool false, .tuple #[.int .i64 k, .bool false], .pointer (some ⟨wb, 0, none⟩), .int .i64 id, .tuple #[.int .i64 k, .bool false], .int .i64 k, .bool false, .bool false, .pointer (some ⟨wb, 0, none⟩), .pointer (some ⟨wb, 0, none⟩), .pointer (some ⟨wb, 0, none⟩), .slice (some ⟨b, 0, none⟩) R.length cap, .int .i64 R.length, .bool false, x28, x29, x30, x31, x32, x33, x34, x35, x36, x37, x38, x39, x40, x41, x42, x43, x44, x45, x46, x47, x48, y49, y50, y51, y52, y53, y54, y55, y56, y57, y58, y59, y60, y61, y62, y63, y64, y65, y66, y67, y68, y69], []⟩) ∧ RDone base wb (putR R (f, id, t)) 0 w (.returned (.int .i64 0)) W6 := ⟨_, rfl⟩
  have HQ2 := Lib.hid hQ2
  clear hQ2
  refine Code.wp_mono (Q := NoPanic Q2) ?_ ?_
  rotate_left
  · skip
    refine wp_region_rest 49 21 6 _ [true, false, true, true, true, true, true, true, false, true, false, false, true, true, true, true, true, true, false, true, true] [.pointer (some ⟨wb, 0, none⟩), undef, .pointer (some ⟨wb, 0, none⟩), .pointer (some ⟨wb, 0, none⟩), .pointer (some ⟨wb, 1, none⟩), .slice (some ⟨b2, 0, none⟩) R.length cap2, .int .i64 k, .slice (some ⟨b2, 0, none⟩) k cap2, undef, .agg #[.int .i64 f, .int .i64 t], undef, undef, .pointer (some ⟨wb, 0, none⟩), .pointer (some ⟨wb, 0, none⟩), .pointer (some ⟨wb, 1, none⟩), .slice (some ⟨b2, 0, none⟩) R.length cap2, .int .i64 k, .slice (some ad2) (R.length - k) (cap2 - k), undef, .pointer (some ⟨wb, 0, none⟩), .pointer (some ⟨wb, 1, none⟩)] (fun V => Below W.heap.size W V) rfl rfl (by kernel_rfl) (by kernel_rfl) (by kernel_rfl) rfl (by kernel_rfl) (Below.refl _ _).drew ?_ #[true, false, true, true, true, true, true, true, false, true, false, false, true, true, true, true, true, true, false, true, true, false] [.pointer (some ⟨wb, 0, none⟩), .int .i64 id, .agg #[.int .i64 f, .int .i64 t], undef, undef, .pointer (some ⟨w.heap.size, 0, none⟩), .int .i64 0, .int .i64 k, .bool false, .int .i64 id, .bool true, .bool false, .agg #[.int .i64 f, .int .i64 t], .bool true, .bool false, .tuple #[.int .i64 k, .bool false], .pointer (some ⟨wb, 0, none⟩), .int .i64 id, .tuple #[.int .i64 k, .bool false], .int .i64 k, .bool false, .bool false, .pointer (some ⟨wb, 0, none⟩), .pointer (some ⟨wb, 0, none⟩), .pointer (some ⟨wb, 0, none⟩), .slice (some ⟨b, 0, none⟩) R.length cap, .int .i64 R.length, .bool false, x28, x29, x30, x31, x32, x33, x34, x35, x36, x37, x38, x39, x40, x41, x42, x43, x44, x45, x46, x47, x48, .pointer (some ⟨wb, 0, none⟩), undef, .pointer (some ⟨wb, 0, none⟩), .pointer (some ⟨wb, 0, none⟩), .pointer (some ⟨wb, 1, none⟩), .slice (some ⟨b2, 0, none⟩) R.length cap2, .int .i64 k, .slice (some ⟨b2, 0, none⟩) k cap2, undef, .agg #[.int .i64 f, .int .i64 t], undef, undef, .pointer (some ⟨wb, 0, none⟩), .pointer (some ⟨wb, 0, none⟩), .pointer (some ⟨wb, 1, none⟩), .slice (some ⟨b2, 0, none⟩) R.length cap2, .int .i64 k, .slice (some ad2) (R.length - k) (cap2 - k), undef, .pointer (some ⟨wb, 0, none⟩), .pointer (some ⟨wb, 1, none⟩)] (by kernel_rfl) rfl ?_
    · simp only [List.take_succ_cons, List.take_zero, PureSteps, and_true]
      refine ⟨fun _ => ?_, fun h => absurd h (by decide), fun _ => ?_, fun _ => ?_, fun _ => ?_, fun _ => ?_, fun _ => ?_, fun _ => ?_, fun h => absurd h (by decide), fun _ => ?_, fun h => absurd h (by decide), fun h => absurd h (by decide), fun _ => ?_, fun _ => ?_, fun _ => ?_, fun _ => ?_, fun _ => ?_, fun _ => ?_, fun h => absurd h (by decide), fun _ => ?_, fun _ => ?_⟩
      · intro A V hC hP hd
        have eP0 : A.tmps[0]?.getD undef = .pointer (some ⟨wb, 0, none⟩) := evalT (hP 0 (of_decide_eq_true rfl))
        clear hC hP hd
        show _ = Result.ok (Next.value (.pointer (some ⟨wb, 0, none⟩))) V
        go_simp
      · intro A V hC hP hd
        have eP0 : A.tmps[0]?.getD undef = .pointer (some ⟨wb, 0, none⟩) := evalT (hP 0 (of_decide_eq_true rfl))
        clear hC hP hd
        show _ = Result.ok (Next.value (.pointer (some ⟨wb, 0, none⟩))) V
        go_simp
      · intro A V hC hP hd
        have e2 : A.tmps[51]?.getD undef = .pointer (some ⟨wb, 0, none⟩) := evalT (hd 2 (by kernel_rfl) rfl)
        clear hC hP hd
        show _ = Result.ok (Next.value (.pointer (some ⟨wb, 0, none⟩))) V
        go_simp
      · intro A V hC hP hd
        have e3 : A.tmps[52]?.getD undef = .pointer (some ⟨wb, 0, none⟩) := evalT (hd 3 (by kernel_rfl) rfl)
        clear hC hP hd
        show _ = Result.ok (Next.value (.pointer (some ⟨wb, 1, none⟩))) V
        go_simp
      · intro A V hC hP hd
        have e4 : A.tmps[53]?.getD undef = .pointer (some ⟨wb, 1, none⟩) := evalT (hd 4 (by kernel_rfl) rfl)
        have c0' := below_cell hC hwl1 c1
        clear hC hP hd
        show _ = Result.ok (Next.value (.slice (some ⟨b2, 0, none⟩) R.length cap2)) V
        go_simp
      · intro A V hC hP hd
        have eP7 : A.tmps[7]?.getD undef = .int .i64 k := evalT (hP 7 (of_decide_eq_true rfl))
        clear hC hP hd
        show _ = Result.ok (Next.value (.int .i64 k)) V
        go_simp
      · intro A V hC hP hd
        have e5 : A.tmps[54]?.getD undef = .slice (some ⟨b2, 0, none⟩) R.length cap2 := evalT (hd 5 (by kernel_rfl) rfl)
        have e6 : A.tmps[55]?.getD undef = .int .i64 k := evalT (hd 6 (by kernel_rfl) rfl)
        clear hC hP hd
        show _ = Result.ok (Next.value (.slice (some ⟨b2, 0, none⟩) k cap2)) V
        go_simp
      · intro A V hC hP hd
        have eP5 : A.tmps[5]?.getD undef = .pointer (some ⟨w.heap.size, 0, none⟩) := evalT (hP 5 (of_decide_eq_true rfl))
        have k1' := below_cell hC hbx k1
        have k2' := below_cell hC hbx k2
        clear hC hP hd
        show _ = Result.ok (Next.value (.agg #[.int .i64 f, .int .i64 t])) V
        go_simp
      · intro A V hC hP hd
        have eP0 : A.tmps[0]?.getD undef = .pointer (some ⟨wb, 0, none⟩) := evalT (hP 0 (of_decide_eq_true rfl))
        clear hC hP hd
        show _ = Result.ok (Next.value (.pointer (some ⟨wb, 0, none⟩))) V
        go_simp
      · intro A V hC hP hd
        have e12 : A.tmps[61]?.getD undef = .pointer (some ⟨wb, 0, none⟩) := evalT (hd 12 (by kernel_rfl) rfl)
        clear hC hP hd
        show _ = Result.ok (Next.value (.pointer (some ⟨wb, 0, none⟩))) V
        go_simp
      · intro A V hC hP hd
        have e13 : A.tmps[62]?.getD undef = .pointer (some ⟨wb, 0, none⟩) := evalT (hd 13 (by kernel_rfl) rfl)
        clear hC hP hd
        show _ = Result.ok (Next.value (.pointer (some ⟨wb, 1, none⟩))) V
        go_simp
      · intro A V hC hP hd
        have e14 : A.tmps[63]?.getD undef = .pointer (some ⟨wb, 1, none⟩) := evalT (hd 14 (by kernel_rfl) rfl)
        have c0' := below_cell hC hwl1 c1
        clear hC hP hd
        show _ = Result.ok (Next.value (.slice (some ⟨b2, 0, none⟩) R.length cap2)) V
        go_simp
      · intro A V hC hP hd
        have eP7 : A.tmps[7]?.getD undef = .int .i64 k := evalT (hP 7 (of_decide_eq_true rfl))
        clear hC hP hd
        show _ = Result.ok (Next.value (.int .i64 k)) V
        go_simp
      · intro A V hC hP hd
        have e15 : A.tmps[64]?.getD undef = .slice (some ⟨b2, 0, none⟩) R.length cap2 := evalT (hd 15 (by kernel_rfl) rfl)
        have e16 : A.tmps[65]?.getD undef = .int .i64 k := evalT (hd 16 (by kernel_rfl) rfl)
        have hif := HI2.out
        clear hC hP hd
        show _ = Result.ok (Next.value (.slice (some ad2) (R.length - k) (cap2 - k))) V
        go_simp
      · intro A V hC hP hd
        have e0 : A.tmps[49]?.getD undef = .pointer (some ⟨wb, 0, none⟩) := evalT (hd 0 (by kernel_rfl) rfl)
        clear hC hP hd
        show _ = Result.ok (Next.value (.pointer (some ⟨wb, 0, none⟩))) V
        go_simp
      · intro A V hC hP hd
        have e19 : A.tmps[68]?.getD undef = .pointer (some ⟨wb, 0, none⟩) := evalT (hd 19 (by kernel_rfl) rfl)
        clear hC hP hd
        show _ = Result.ok (Next.value (.pointer (some ⟨wb, 1, none⟩))) V
        go_simp
    refine wpRest_tail (n := 3) (Φ := fun L A V => ∃ (u29 v36 : Value) (g : Nat), L = #[true, true, true, true, true, true, true, true, true, true, true, false, true, true, true, true, true, true, false, true, true, false] ∧ A = ⟨#[.pointer (some ⟨wb, 0, none⟩), .int .i64 id, .agg #[.int .i64 f, .int .i64 t], undef, undef, .pointer (some ⟨w.heap.size, 0, none⟩), .int .i64 0, .int .i64 k, .bool false, .int .i64 id, .bool true, .bool false, .agg #[.int .i64 f, .int .i64 t], .bool true, .bool false, .tuple #[.int .i64 k, .bool false], .pointer (some ⟨wb, 0, none⟩), .int .i64 id, .tuple #[.int .i64 k, .bool false], .int .i64 k, .bool false, .bool false, .pointer (some ⟨wb, 0, none⟩), .pointer (some ⟨wb, 0, none⟩), .pointer (some ⟨wb, 0, none⟩), .slice (some ⟨b, 0, none⟩) R.length cap, .int .i64 R.length, .bool false, x28, x29, x30, x31, x32, x33, x34, x35, x36, x37, x38, x39, x40, x41, x42, x43, x44, x45, x46, x47, x48, .pointer (some ⟨wb, 0, none⟩), u29, .pointer (some ⟨wb, 0, none⟩), .pointer (some ⟨wb, 0, none⟩), .pointer (some ⟨wb, 1, none⟩), .slice (some ⟨b2, 0, none⟩) R.length cap2, .int .i64 k, .slice (some ⟨b2, 0, none⟩) k cap2, v36, .agg #[.int .i64 f, .int .i64 t], .slice (some ⟨g, 0, none⟩) 1 1, undef, .pointer (some ⟨wb, 0, none⟩), .pointer (some ⟨wb, 0, none⟩), .pointer (some ⟨wb, 1, none⟩), .slice (some ⟨b2, 0, none⟩) R.length cap2, .int .i64 k, .slice (some ad2) (R.length - k) (cap2 - k), undef, .pointer (some ⟨wb, 0, none⟩), .pointer (some ⟨wb, 1, none⟩)], []⟩ ∧ Below W.heap.size W V ∧ V.ownsRow W.heap.size 34 2 v36 (0 + k) ([] ++ (flat ((spsR R).take k))) ∧ (∀ j u, ([.int .i64 f, .int .i64 t] : List Value)[j]? = some u → V.cell? ⟨g, j, none⟩ = some u)) ?_ (fun tail => ?_)
    · rintro L A V ⟨u29, v36, g, rfl, rfl, hC, ho, hg⟩
      refine wpRest_step (rs := [11]) (by kernel_rfl) ⟨rest_one rfl (by decide) ?_, trivial⟩
      refine val_append_own _ _ 29 rfl W.heap.size 34 i1 (.agg #[.int .i64 0, .int .i64 0]) 2 16 Tryd.underlying29 hi1 hy0 hy1 hy2 rfl (by decide) v36 (0 + k) _ rfl ho ⟨g, 0, none⟩ 1 1 [.int .i64 f, .int .i64 t] rfl rfl (fun j u hu => by rw [Addr.add_lit, Nat.zero_add]; exact hg j u hu) (by simp [Value.oneCell']) (by unfold maxLen; omega) (by omega) hC.size ?_
      intro v39 V6 ho6 hgr6
      have hC6 : Below W.heap.size W V6 := hC.grown hgr6 hC.size (fun q hq => (ho.lt q hq).1)
      refine ⟨hC6, ?_⟩
      simp only [Act.put, List.setIfInBounds_toArray, List.set_cons_zero, List.set_cons_succ]
      refine wpRest_step (rs := [18]) (by kernel_rfl) ⟨rest_one rfl (by decide) ?_, trivial⟩
      refine val_append_own _ _ 29 rfl W.heap.size 34 i1 (.agg #[.int .i64 0, .int .i64 0]) 2 16 Tryd.underlying29 hi1 hy0 hy1 hy2 rfl (by decide) v39 (0 + k + 1) _ rfl ho6 ad2 (R.length - k) _ (flat ((spsR R).drop k)) rfl (by rw [flat_length]; simp; omega) (HA2.out _ hC6) (flat_one _) (by unfold maxLen; omega) (by omega) hC6.size ?_
      intro v46 V7 ho7 hgr7
      have hC7 : Below W.heap.size W V7 := hC6.grown hgr7 hC6.size (fun q hq => (ho6.lt q hq).1)
      refine ⟨hC7, ?_⟩
      simp only [Act.put, List.setIfInBounds_toArray, List.set_cons_zero, List.set_cons_succ]
      obtain ⟨a7, q7, rfl, _, _⟩ := ownsRow_slice ho7
      have c7 := below_cell hC7 hwl1 c1
      have f7 := below_frozen hC7 hwl1 f1
      refine wpRest_step (rs := [21]) (by kernel_rfl) ⟨rest_last rfl ?_, trivial⟩
      refine operVal_intro fun K hK => ?_
      unfold operVal
      have HO7 := Lib.hid ho7
      have HC7 := Lib.hid hC7
      clear ho7 hC7 hgr7 ho6 hgr6 hC6 ho hg hC
      go_simp
      refine hK _ _ ?_
      refine NoPanic.normal ?_
      rw [HQ2.out]
      refine ⟨rfl, ⟨_, _, _, _, _, _, _, _, _, _, _, _, _, _, _, _, _, _, _, _, _, rfl⟩, ?_⟩
      have h7 := HO7.out
      simp only [Nat.zero_add] at h7
      exact rend HH.out (by rw [HE1.out]; exact HM.out) HC7.out h7 (by rw [HLT.out]; omega) (by rw [HE2.out]; simp [flat]) (fun e => by have := (Value.slice.inj e).2.1; omega) 0
    refine wpRest_step (rs := [1, 10]) (by kernel_rfl) ⟨rest_one rfl (by decide) ?_, rest_one rfl (by decide) ?_, trivial⟩
    · refine operVal_intro fun K hK => ?_
      unfold operVal
      go_simp
      obtain ⟨V, hV⟩ : ∃ V, V = (W.alloc (.cells #[] 34)).drew := ⟨_, rfl⟩
      have hC : Below W.heap.size W V := by rw [hV]; exact ((Below.refl _ _).alloc (Nat.le_refl _) _).drew
      have ho : V.ownsRow W.heap.size 34 2 (.slice (some ⟨W.heap.size, 0, none⟩) 0 0) (0) ([]) := by rw [hV]; exact own_built W (Nat.le_refl _)
      have hs : V.heap.size = W.heap.size + 1 := by rw [hV]; simp
      refine hK _ _ ⟨(by first | exact hC | (rw [hV] at hC; exact hC)), ?_⟩
      simp only [Act.put, List.setIfInBounds_toArray, List.set_cons_zero, List.set_cons_succ]
      first | rw [← hV] | skip
      refine wpRest_step (rs := [8, 10]) (by kernel_rfl) ⟨rest_one rfl (by decide) ?_, rest_one rfl (by decide) ?_, trivial⟩
      · refine val_append_own _ _ 29 rfl W.heap.size 34 i1 (.agg #[.int .i64 0, .int .i64 0]) 2 16 Tryd.underlying29 hi1 hy0 hy1 hy2 rfl (by decide) _ 0 [] rfl ho ⟨b2, 0, none⟩ k _ (flat ((spsR R).take k)) rfl (by rw [flat_length]; simp; omega) (sps_take HCI.out hC k) (flat_one _) (by unfold maxLen; omega) (by omega) hC.size ?_
        intro v36 V5 ho5 hgr5
        have hC5 : Below W.heap.size W V5 := hC.grown hgr5 hC.size (fun q hq => (ho.lt q hq).1)
        refine ⟨hC5, ?_⟩
        simp only [Act.put, List.setIfInBounds_toArray, List.set_cons_zero, List.set_cons_succ]
        refine wpRest_step (rs := [10]) (by kernel_rfl) ⟨rest_one rfl (by decide) ?_, trivial⟩
        refine operVal_intro fun K hK => ?_
        unfold operVal
        have HO5 := Lib.hid ho5
        have HC5 := Lib.hid hC5
        clear ho5 hC5 hgr5 ho hC hV
        go_simp
        refine hK _ _ ⟨HC5.out.alloc HC5.out.size _, ?_⟩
        simp only [Act.put, List.setIfInBounds_toArray, List.set_cons_zero, List.set_cons_succ]
        exact tail _ _ _ ⟨_, v36, _, rfl, rfl, (HC5.out.alloc HC5.out.size _), (HO5.out.alloc _), (fun j u hu => row_new0 V5 #[.int .i64 f, .int .i64 t] 34 j u hu)⟩
      · refine operVal_intro fun K hK => ?_
        unfold operVal
        have HO := Lib.hid ho
        have HC := Lib.hid hC
        have HS := Lib.hid hs
        clear ho hC hV hs
        go_simp
        refine hK _ _ ⟨HC.out.alloc HC.out.size _, ?_⟩
        simp only [Act.put, List.setIfInBounds_toArray, List.set_cons_zero, List.set_cons_succ]
        have hC := HC.out.alloc HC.out.size (.cells #[.int .i64 f, .int .i64 t] 34)
        refine wpRest_step (rs := [8]) (by kernel_rfl) ⟨rest_one rfl (by decide) ?_, trivial⟩
        refine val_append_own _ _ 29 rfl W.heap.size 34 i1 (.agg #[.int .i64 0, .int .i64 0]) 2 16 Tryd.underlying29 hi1 hy0 hy1 hy2 rfl (by decide) _ 0 [] rfl (HO.out.alloc _) ⟨b2, 0, none⟩ k _ (flat ((spsR R).take k)) rfl (by rw [flat_length]; simp; omega) (sps_take HCI.out hC k) (flat_one _) (by unfold maxLen; omega) (by omega) hC.size ?_
        intro v36 V5 ho5 hgr5
        have hC5 : Below W.heap.size W V5 := hC.grown hgr5 hC.size (fun q hq => (HO.out.lt q hq).1)
        refine ⟨hC5, ?_⟩
        simp only [Act.put, List.setIfInBounds_toArray, List.set_cons_zero, List.set_cons_succ]
        exact tail _ _ _ ⟨_, v36, _, rfl, rfl, hC5, ho5, (fun j u hu => (cell_row_kept hgr5 (by simp) (fun e => by have := Option.some.inj e; have := HS.out; simp only at *; omega) j).trans (row_new0 V #[.int .i64 f, .int .i64 t] 34 j u hu))⟩
    · refine operVal_intro fun K hK => ?_
      unfold operVal
      go_simp
      obtain ⟨V, hV⟩ : ∃ V, V = (W.alloc (.cells #[.int .i64 f, .int .i64 t] 34)).drew := ⟨_, rfl⟩
      have hC0 : Below W.heap.size W V := by rw [hV]; exact ((Below.refl _ _).alloc (Nat.le_refl _) _).drew
      have hg : ∀ j u, ([.int .i64 f, .int .i64 t] : List Value)[j]? = some u → V.cell? ⟨W.heap.size, j, none⟩ = some u := by rw [hV]; exact fun j u hu => row_new0 W #[.int .i64 f, .int .i64 t] 34 j u hu
      have hs : V.heap.size = W.heap.size + 1 := by rw [hV]; simp
      refine hK _ _ ⟨(by first | exact hC0 | (rw [hV] at hC0; exact hC0)), ?_⟩
      simp only [Act.put, List.setIfInBounds_toArray, List.set_cons_zero, List.set_cons_succ]
      first | rw [← hV] | skip
      refine wpRest_step (rs := [1]) (by kernel_rfl) ⟨rest_one rfl (by decide) ?_, trivial⟩
      refine operVal_intro fun K hK => ?_
      unfold operVal
      have HC0 := Lib.hid hC0
      have HG := Lib.hid hg
      have HS := Lib.hid hs
      clear hC0 hg hV hs
      go_simp
      refine hK _ _ ⟨HC0.out.alloc HC0.out.size _, ?_⟩
      simp only [Act.put, List.setIfInBounds_toArray, List.set_cons_zero, List.set_cons_succ]
      have hC := HC0.out.alloc HC0.out.size (.cells #[] 34)
      refine wpRest_step (rs := [8]) (by kernel_rfl) ⟨rest_one rfl (by decide) ?_, trivial⟩
      refine val_append_own _ _ 29 rfl W.heap.size 34 i1 (.agg #[.int .i64 0, .int .i64 0]) 2 16 Tryd.underlying29 hi1 hy0 hy1 hy2 rfl (by decide) _ 0 [] rfl (own_built V HC0.out.size) ⟨b2, 0, none⟩ k _ (flat ((spsR R).take k)) rfl (by rw [flat_length]; simp; omega) (sps_take HCI.out hC k) (flat_one _) (by unfold maxLen; omega) (by omega) hC.size ?_
      intro v36 V5 ho5 hgr5
      have hC5 : Below W.heap.size W V5 := hC.grown hgr5 hC.size (fun q hq => by cases hq; exact HC0.out.size)
      refine ⟨hC5, ?_⟩
      simp only [Act.put, List.setIfInBounds_toArray, List.set_cons_zero, List.set_cons_succ]
      exact tail _ _ _ ⟨_, v36, _, rfl, rfl, hC5, ho5, (fun j u hu => (cell_row_kept hgr5 (by simp; have := HS.out; omega) (fun e => by have := Option.some.inj e; have := HS.out; simp only at *; omega) j).trans (block_keep W.heap.size (by have := HS.out; omega) (HG.out j u hu)))⟩
  intro e a W6 hq
  obtain ⟨rfl, ⟨y49, y50, y51, y52, y53, y54, y55, y56, y57, y58, y59, y60, y61, y62, y63, y64, y65, y66, y67, y68, y69, rfl⟩, hd⟩ := (by have := NoPanic.imp _ _ _ hq; rw [HQ2.out] at this; exact this)
  clear hq HQ2
  have HD := Lib.hid hd
  clear hd
  go_wp2_with fail
  go_ret
  exact HD.out
end Go.Proofs.YtgbbldbkkmjedaaDoor
