/- The document's tree: the span of a number; who has a time of a span; who has a time. The document's tree: who has a time of a span; who has a time. The document's tree: who has a time. And the law's own 'same'. -/
import Derived.Test.YtgbbldbkkmjedaaDoorRefF
namespace Go.Proofs.YtgbbldbkkmjedaaDoor
open Go.RowKit Go.Shelf Go.Sort

theorem getElem?_spsR {R : List It} {k : Nat} {x : It} (h : R[k]? = some x) : (spsR R)[k]? = some (x.1, x.2.2) := by simp [spsR, h]
theorem getElem?_idsR' {R : List It} {k : Nat} {x : It} (h : R[k]? = some x) : (idsR R)[k]? = some x.2.1 := by simp [idsR, h]
/-- What Span answers. -/
def spanE (R : List It) (id : Int) : Int := if hasR R id then 0 else 7
def spanS (R : List It) (id : Int) : Int × Int := if hasR R id then ((R.getD (posR R id) (0, 0, 0)).1, (R.getD (posR R id) (0, 0, 0)).2.2) else (0, 0)

set_option maxRecDepth 100000 in
set_option maxHeartbeats 1000000 in
theorem rspan_any (id : Int) (w : World) (base wb : Nat) (R : List It) (vi vs : Value) (h : RefAt w base wb R vi vs) (hs : SrtI R) (hlen : R.length < 1000000) :
    Calls Tryd.prog 10 #[.pointer (some ⟨wb, 0, none⟩), .int .i64 id] w fun e w' => e = .returned (.tuple #[.agg #[.int .i64 (spanS R id).1, .int .i64 (spanS R id).2], .int .i64 (spanE R id)]) ∧ Below w.heap.size w w' := by
  have hF : ∀ W, Below w.heap.size w W → Calls Tryd.prog 54 #[.pointer (some ⟨wb, 0, none⟩), .int .i64 id] W fun e w' => e = .returned (.tuple #[.int .i64 (posR R id : Int), .bool (hasR R id)]) ∧ Below W.heap.size W w' :=
    fun W hB => rfind_any id W base wb R vi vs (h.below hB) hs hlen
  have hwl : wb < w.heap.size := Nat.lt_of_lt_of_le h.lt h.hb
  have B0 : Below w.heap.size w (w.alloc (.cells #[.int .i64 0, .int .i64 0] 34)) := (Below.refl _ _).alloc (Nat.le_refl _) _
  rcases hasR_pos hs id with ⟨e1, x, e2, e3⟩ | ⟨e1, e2⟩
  · have hS : spanS R id = (x.1, x.2.2) := by unfold spanS; rw [e1, if_pos rfl, List.getD_eq_getElem?_getD, e2]; rfl
    have hE : spanE R id = 0 := by unfold spanE; rw [e1, if_pos rfl]
    rw [hS, hE]
    rw [e1] at hF
    obtain ⟨ao, cap, ev, hsp⟩ := ownsRow_spans h.sps
    rw [spsR_length] at ev
    have c1 := (rt_cells h.cells).2.1
    rw [ev] at c1
    obtain ⟨b, o, rfl, d1, d2⟩ := hsp _ _ _ (getElem?_spsR e2)
    have hbl : b < w.heap.size := World.block_lt_of_cell? w _ d1
    have hk : posR R id < R.length := (List.getElem?_eq_some_iff.1 e2).1
    generalize posR R id = k at *
    generalize x.1 = f at *
    generalize x.2.2 = t at *
    have HF := Lib.hid hF
    have HB0 := Lib.hid B0
    clear h hs e1 e2 e3 hsp ev hF hS hE B0
    go_enter Tryd.func10, Tryd.ntmps10
    go_wp2_with fail
    refine (HF.out _ HB0.out).mono ?_
    rintro e w1 ⟨rfl, b1⟩
    have B1 := HB0.out.trans (b1.mono HB0.out.size)
    have c1' := below_cell B1 hwl c1
    have d1' := below_cell B1 hbl d1
    have d2' := below_cell B1 hbl d2
    have k1 := below_cell b1 (by simp) (show (w.alloc (.cells #[.int .i64 0, .int .i64 0] 34)).cell? ⟨w.heap.size, 0, none⟩ = some (.int .i64 0) by simp)
    have k2 := below_cell b1 (by simp) (show (w.alloc (.cells #[.int .i64 0, .int .i64 0] 34)).cell? ⟨w.heap.size, 1, none⟩ = some (.int .i64 0) by simp)
    have l1 := below_frozen b1 (by simp) (show (w.alloc (.cells #[.int .i64 0, .int .i64 0] 34)).frozen? ⟨w.heap.size, 0, none⟩ = false by simp)
    have l2 := below_frozen b1 (by simp) (show (w.alloc (.cells #[.int .i64 0, .int .i64 0] 34)).frozen? ⟨w.heap.size, 1, none⟩ = false by simp)
    have HB1 := Lib.hid B1
    clear b1 B1 c1 d1 d2
    go_wp2_with fail
    exact bodyPost_ret (v := .tuple #[.agg #[.int .i64 f, .int .i64 t], .int .i64 0]) (by simp [results, Tryd.results10, go_sem, k1, k2]) rfl ⟨rfl, (HB1.out.setCell (Nat.le_refl _) _).setCell (Nat.le_refl _) _⟩
  · have hS : spanS R id = (0, 0) := by unfold spanS; rw [e1]; rfl
    have hE : spanE R id = 7 := by unfold spanE; rw [e1]; rfl
    rw [hS, hE]
    rw [e1] at hF
    have HF := Lib.hid hF
    have HB0 := Lib.hid B0
    clear h hs e1 e2 hF hS hE B0
    go_enter Tryd.func10, Tryd.ntmps10
    go_wp2_with fail
    refine (HF.out _ HB0.out).mono ?_
    rintro e w1 ⟨rfl, b1⟩
    have B1 := HB0.out.trans (b1.mono HB0.out.size)
    have k1 := below_cell b1 (by simp) (show (w.alloc (.cells #[.int .i64 0, .int .i64 0] 34)).cell? ⟨w.heap.size, 0, none⟩ = some (.int .i64 0) by simp)
    have k2 := below_cell b1 (by simp) (show (w.alloc (.cells #[.int .i64 0, .int .i64 0] 34)).cell? ⟨w.heap.size, 1, none⟩ = some (.int .i64 0) by simp)
    have l1 := below_frozen b1 (by simp) (show (w.alloc (.cells #[.int .i64 0, .int .i64 0] 34)).frozen? ⟨w.heap.size, 0, none⟩ = false by simp)
    have l2 := below_frozen b1 (by simp) (show (w.alloc (.cells #[.int .i64 0, .int .i64 0] 34)).frozen? ⟨w.heap.size, 1, none⟩ = false by simp)
    have HB1 := Lib.hid B1
    clear b1 B1
    go_wp2_with fail
    exact bodyPost_ret (v := .tuple #[.agg #[.int .i64 0, .int .i64 0], .int .i64 7]) (by simp [results, Tryd.results10, go_sem, k1, k2]) rfl ⟨rfl, (HB1.out.setCell (Nat.le_refl _) _).setCell (Nat.le_refl _) _⟩
end Go.Proofs.YtgbbldbkkmjedaaDoor
namespace Go.Proofs.YtgbbldbkkmjedaaDoor
open Go.RowKit Go.Shelf Go.Sort

def rmB (f t : Int) (x : It) : Bool := rightB f t && decide (imax f x.1 < imin t x.2.2)
def raB (p : Int) (x : It) : Bool := hasB x.1 x.2.2 p
def selR (P : It → Bool) (R : List It) : List Int := (R.filter P).map (·.2.1)
theorem selR_snoc (P : It → Bool) {R : List It} {k : Nat} {x : It} (h : R[k]? = some x) : selR P (R.take (k + 1)) = selR P (R.take k) ++ if P x then [x.2.1] else [] := by
  unfold selR
  rw [List.take_add_one, h, List.filter_append, List.map_append]
  congr 1
  cases hp : P x <;> simp [hp]
theorem selR_le (P : It → Bool) (R : List It) (k : Nat) : (selR P (R.take k)).length ≤ R.length := by
  unfold selR
  rw [List.length_map]
  exact Nat.le_trans (List.length_filter_le _ _) (by rw [List.length_take]; omega)

theorem row_new0' (w : World) (cs : Array Value) (e : TypeId) (j : Nat) (u : Value) (h : cs.toList[j]? = some u) : (w.alloc (.cells cs e)).cell? ⟨w.heap.size, j, none⟩ = some u := by
  rw [block_cell (block_alloc_new w _) j]; simpa using h

set_option maxRecDepth 100000 in
set_option maxHeartbeats 4000000 in
theorem rmeets_any (f t : Int) (w : World) (base wb : Nat) (R : List It) (vi vs : Value) (h : RefAt w base wb R vi vs) (hlen : R.length < 1000000) :
    Calls Tryd.prog 16 #[.pointer (some ⟨wb, 0, none⟩), .agg #[.int .i64 f, .int .i64 t]] w fun e w' => ∃ v, e = .returned v ∧ w'.ownsRow w.heap.size 3 1 v (selR (rmB f t) R).length ((selR (rmB f t) R).map (Value.int .i64)) ∧ Below w.heap.size w w' := by
  have hR := fun W => rright_any f t W
  have hwl : wb < w.heap.size := Nat.lt_of_lt_of_le h.lt h.hb
  obtain ⟨ao, cap, e1, hi⟩ := ownsRow_ints h.ids
  obtain ⟨a2, cap2, e2, hsp⟩ := ownsRow_spans h.sps
  rw [idsR_length] at e1
  rw [spsR_length] at e2
  have c0 := (rt_cells h.cells).1
  have c1 := (rt_cells h.cells).2.1
  rw [e1] at c0
  rw [e2] at c1
  have hlk : R.length ≤ maxLen := by unfold maxLen; omega
  have HI := Lib.hid hi
  have HS := Lib.hid hsp
  have B0 : Below w.heap.size w (w.alloc (.cells #[.int .i64 f, .int .i64 t] 34)) := (Below.refl _ _).alloc (Nat.le_refl _) _
  have k1 : (w.alloc (.cells #[.int .i64 f, .int .i64 t] 34)).cell? ⟨w.heap.size, 0, none⟩ = some (.int .i64 f) := by simp
  have k2 : (w.alloc (.cells #[.int .i64 f, .int .i64 t] 34)).cell? ⟨w.heap.size, 1, none⟩ = some (.int .i64 t) := by simp
  have hs0 : (w.alloc (.cells #[.int .i64 f, .int .i64 t] 34)).heap.size = w.heap.size + 1 := by simp
  have c1' := below_cell B0 hwl c1
  clear h e1 e2 hi hsp c1
  go_enter Tryd.func16, Tryd.ntmps16
  go_wp2_with fail
  obtain ⟨w0, hw0⟩ : ∃ w0, w0 = w.alloc (.cells #[.int .i64 f, .int .i64 t] 34) := ⟨_, rfl⟩
  rw [← hw0] at B0 k1 k2 hs0 ⊢
  have HB0 := Lib.hid B0
  clear hw0 B0 c1'
  go_loopw [5, 13] (fun v i wr => ∃ k : Nat, k ≤ R.length ∧ i = .int .i64 k ∧ wr.ownsRow w0.heap.size 3 1 v (selR (rmB f t) (R.take k)).length ((selR (rmB f t) (R.take k)).map (Value.int .i64)) ∧ Below w0.heap.size w0 wr) (fun _ i _ => R.length - (intOf i).toNat)
  case atStart => exact ⟨0, by omega, rfl, by simpa [selR] using World.ownsRow_nil _ _ _ _, Below.refl _ _⟩
  case round =>
    obtain ⟨k, hk, rfl, hown, hB⟩ := hrel
    by_cases hlt : k < R.length
    · obtain ⟨x, hx⟩ : ∃ x, R[k]? = some x := ⟨_, List.getElem?_eq_getElem hlt⟩
      obtain ⟨b, o, rfl, d1, d2⟩ := HS.out _ _ _ (getElem?_spsR hx)
      obtain ⟨bi, oi, rfl, g1⟩ := HI.out _ _ (getElem?_idsR' hx)
      have hb : b < w.heap.size := World.block_lt_of_cell? w _ d1
      have hbi : bi < w.heap.size := World.block_lt_of_cell? w _ g1
      have hBw := HB0.out.trans (hB.mono (by omega))
      have d1 := below_cell hBw hb d1
      have d2 := below_cell hBw hb d2
      have g1 := below_cell hBw hbi g1
      have c0' := below_cell hBw hwl c0
      have k1' := below_cell hB (by omega) k1
      have k2' := below_cell hB (by omega) k2
      have hsn := selR_snoc (rmB f t) hx
      have hle := selR_le (rmB f t) R k
      have hsz := hB.size
      have hP : rmB f t x = (rightB f t && decide (imax f x.1 < imin t x.2.2)) := rfl
      generalize selR (rmB f t) (R.take k) = S at *
      generalize x.1 = xf at *
      generalize x.2.2 = xt at *
      generalize x.2.1 = xi at *
      generalize rmB f t x = px at *
      have HSN := Lib.hid hsn
      have HO := Lib.hid hown
      have HB := Lib.hid hB
      have HBW := Lib.hid hBw
      have hwx : w.heap.size < wr.heap.size := by omega
      have hww : wb < wr.heap.size := by omega
      have hbb : b < wr.heap.size := by omega
      have hbbi : bi < wr.heap.size := by omega
      clear hsn hown hB hBw hx
      cases hr : rightB f t
      · have hpx : px = false := by rw [hP, hr]; rfl
        have hR2 := hR
        rw [hr] at hR2
        have HP := Lib.hid hpx
        clear hP hr hR hpx
        go_wp2_with fail
        refine (hR2 _).mono ?_
        rintro e w1 ⟨rfl, b1⟩
        have B1 := Lib.hid (HB.out.trans (((Below.refl _ wr).alloc (Nat.le_refl _) _).trans (b1.mono (by simp)) |>.mono hsz))
        have O1 := Lib.hid (ownsRow_below HO.out (((Below.refl _ wr).alloc (Nat.le_refl _) (.cells #[.int .i64 xf, .int .i64 xt] 34)).trans (b1.mono (by simp))))
        clear b1 hR2
        go_wp2_with fail
        exact ⟨⟨k + 1, by omega, by go_num, by rw [HSN.out, HP.out]; simpa using O1.out, B1.out⟩, by simp [intOf]; omega⟩
      · have hR2 := hR
        rw [hr] at hR2
        rw [hr, Bool.true_and] at hP
        clear hr hR
        have bx : Below wr.heap.size wr (wr.alloc (.cells #[.int .i64 xf, .int .i64 xt] 34)) := (Below.refl _ wr).alloc (Nat.le_refl _) _
        have m1 : (wr.alloc (.cells #[.int .i64 xf, .int .i64 xt] 34)).cell? ⟨wr.heap.size, 0, none⟩ = some (.int .i64 xf) := by simp
        have m2 : (wr.alloc (.cells #[.int .i64 xf, .int .i64 xt] 34)).cell? ⟨wr.heap.size, 1, none⟩ = some (.int .i64 xt) := by simp
        have n1 := below_cell bx hwx k1'
        have n2 := below_cell bx hwx k2'
        have ms : (wr.alloc (.cells #[.int .i64 xf, .int .i64 xt] 34)).heap.size = wr.heap.size + 1 := by simp
        have HX : Hid (wr.alloc (.cells #[.int .i64 xf, .int .i64 xt] 34) = wr.alloc (.cells #[.int .i64 xf, .int .i64 xt] 34)) := rfl
        go_wp2_with fail
        refine (hR2 _).mono ?_
        rintro e w1 ⟨rfl, b1⟩
        have q1 := below_cell b1 (by omega) m1
        have q2 := below_cell b1 (by omega) m2
        have r1 := below_cell b1 (by omega) n1
        have r2 := below_cell b1 (by omega) n2
        have bw1 : Below wr.heap.size wr w1 := bx.trans (b1.mono (by omega))
        have g1' := below_cell bw1 hbbi g1
        have c0'' := below_cell bw1 hww c0'
        have hB1 := HB.out.trans (bw1.mono hsz)
        have hown1 := ownsRow_below HO.out bw1
        have hs1 := bw1.size
        have O1 := Lib.hid hown1
        have B1 := Lib.hid hB1
        clear b1 bw1 m1 m2 n1 n2 bx g1 c0' k1' k2' d1 d2 hR2 ms HX
        by_cases hm : imax f xf < imin t xt
        · have hpx : px = true := by rw [hP]; exact decide_eq_true hm
          have HP := Lib.hid hpx
          clear hP hpx
          go_wp2_with (at_builtin; refine app1 rfl _ _ 28 rfl w0.heap.size 3 Tryd.underlying28 infoInt rfl (by decide) (by decide) _ _ _ rfl (O1.out.alloc _) _ [.int .i64 xi] rfl rfl (by simp [Value.oneCell']) (fun j u hu => row_new0' w1 #[.int .i64 xi] 3 j u hu) (by omega) (by simp; omega) w0 (B1.out.alloc B1.out.size _) ?_; intro v' w3 own3 hB3 hs3 _ hgr3)
          exact ⟨⟨k + 1, by omega, by go_num, by rw [HSN.out, HP.out]; simpa using own3, hB3⟩, by simp [intOf]; omega⟩
        · have hpx : px = false := by rw [hP]; exact decide_eq_false hm
          have HP := Lib.hid hpx
          have hmd : decide (imax f xf < imin t xt) = false := decide_eq_false hm
          clear hP hpx
          go_wp2_with fail
          exact ⟨⟨k + 1, by omega, by go_num, by rw [HSN.out, HP.out]; simpa using O1.out, B1.out⟩, by simp [intOf]; omega⟩
    · have he : R.take k = R := List.take_of_length_le (by omega)
      rw [he] at hown
      have HO := Lib.hid hown
      have HB := Lib.hid hB
      clear hown hB he
      go_wp2_with fail
      go_ret
      exact ⟨_, rfl, ownsRow_mono HO.out (by omega), HB0.out.trans (HB.out.mono (by omega))⟩
end Go.Proofs.YtgbbldbkkmjedaaDoor
namespace Go.Proofs.YtgbbldbkkmjedaaDoor
open Go.RowKit Go.Shelf Go.Sort

set_option maxRecDepth 100000 in
set_option maxHeartbeats 4000000 in
theorem rat_any (p : Int) (w : World) (base wb : Nat) (R : List It) (vi vs : Value) (h : RefAt w base wb R vi vs) (hlen : R.length < 1000000) :
    Calls Tryd.prog 18 #[.pointer (some ⟨wb, 0, none⟩), .int .i64 p] w fun e w' => ∃ v, e = .returned v ∧ w'.ownsRow w.heap.size 3 1 v (selR (raB p) R).length ((selR (raB p) R).map (Value.int .i64)) ∧ Below w.heap.size w w' := by
  have hwl : wb < w.heap.size := Nat.lt_of_lt_of_le h.lt h.hb
  obtain ⟨ao, cap, e1, hi⟩ := ownsRow_ints h.ids
  obtain ⟨a2, cap2, e2, hsp⟩ := ownsRow_spans h.sps
  rw [idsR_length] at e1
  rw [spsR_length] at e2
  have c0 := (rt_cells h.cells).1
  have c1 := (rt_cells h.cells).2.1
  rw [e1] at c0
  rw [e2] at c1
  have HI := Lib.hid hi
  have HS := Lib.hid hsp
  clear h e1 e2 hi hsp
  go_enter Tryd.func18, Tryd.ntmps18
  go_wp2_with fail
  go_loopw [5, 13] (fun v i wr => ∃ k : Nat, k ≤ R.length ∧ i = .int .i64 k ∧ wr.ownsRow w.heap.size 3 1 v (selR (raB p) (R.take k)).length ((selR (raB p) (R.take k)).map (Value.int .i64)) ∧ Below w.heap.size w wr) (fun _ i _ => R.length - (intOf i).toNat)
  case atStart => exact ⟨0, by omega, rfl, by simpa [selR] using World.ownsRow_nil _ _ _ _, Below.refl _ _⟩
  case round =>
    obtain ⟨k, hk, rfl, hown, hB⟩ := hrel
    by_cases hlt : k < R.length
    · obtain ⟨x, hx⟩ : ∃ x, R[k]? = some x := ⟨_, List.getElem?_eq_getElem hlt⟩
      obtain ⟨b, o, rfl, d1, d2⟩ := HS.out _ _ _ (getElem?_spsR hx)
      obtain ⟨bi, oi, rfl, g1⟩ := HI.out _ _ (getElem?_idsR' hx)
      have hb : b < w.heap.size := World.block_lt_of_cell? w _ d1
      have hbi : bi < w.heap.size := World.block_lt_of_cell? w _ g1
      have d1 := below_cell hB hb d1
      have d2 := below_cell hB hb d2
      have g1 := below_cell hB hbi g1
      have c0' := below_cell hB hwl c0
      have hsn := selR_snoc (raB p) hx
      have hle := selR_le (raB p) R k
      have hsz := hB.size
      have hP : raB p x = hasB x.1 x.2.2 p := rfl
      have hH := fun W => rhas_any x.1 x.2.2 p W
      rw [← hP] at hH
      generalize selR (raB p) (R.take k) = S at *
      generalize x.1 = xf at *
      generalize x.2.2 = xt at *
      generalize x.2.1 = xi at *
      have HSN := Lib.hid hsn
      have HO := Lib.hid hown
      have HB := Lib.hid hB
      have hww : wb < wr.heap.size := by omega
      have hbb : b < wr.heap.size := by omega
      have hbbi : bi < wr.heap.size := by omega
      clear hsn hown hB hP
      cases hpx : raB p x
      · rw [hpx] at hH
        have HP := Lib.hid hpx
        have HH := Lib.hid hH
        clear hpx hH hx
        go_wp2_with fail
        refine (HH.out _).mono ?_
        rintro e w1 ⟨rfl, b1⟩
        have bw1 := ((Below.refl _ wr).alloc (Nat.le_refl _) (.cells #[.int .i64 xf, .int .i64 xt] 34)).trans (b1.mono (by simp))
        have B1 := Lib.hid (HB.out.trans (bw1.mono hsz))
        have O1 := Lib.hid (ownsRow_below HO.out bw1)
        clear b1 bw1
        go_wp2_with fail
        exact ⟨⟨k + 1, by omega, by go_num, by rw [HSN.out, HP.out]; simpa using O1.out, B1.out⟩, by simp [intOf]; omega⟩
      · rw [hpx] at hH
        have HP := Lib.hid hpx
        have HH := Lib.hid hH
        clear hpx hH hx
        go_wp2_with fail
        refine (HH.out _).mono ?_
        rintro e w1 ⟨rfl, b1⟩
        have bw1 := ((Below.refl _ wr).alloc (Nat.le_refl _) (.cells #[.int .i64 xf, .int .i64 xt] 34)).trans (b1.mono (by simp))
        have g1' := below_cell bw1 hbbi g1
        have c0'' := below_cell bw1 hww c0'
        have B1 := Lib.hid (HB.out.trans (bw1.mono hsz))
        have O1 := Lib.hid (ownsRow_below HO.out bw1)
        have hs1 := bw1.size
        clear b1 bw1 g1 c0' d1 d2
        go_wp2_with (at_builtin; refine app1 rfl _ _ 28 rfl w.heap.size 3 Tryd.underlying28 infoInt rfl (by decide) (by decide) _ _ _ rfl (O1.out.alloc _) _ [.int .i64 xi] rfl rfl (by simp [Value.oneCell']) (fun j u hu => row_new0' w1 #[.int .i64 xi] 3 j u hu) (by omega) (by simp; omega) w (B1.out.alloc B1.out.size _) ?_; intro v' w3 own3 hB3 hs3 _ hgr3)
        exact ⟨⟨k + 1, by omega, by go_num, by rw [HSN.out, HP.out]; simpa using own3, hB3⟩, by simp [intOf]; omega⟩
    · have he : R.take k = R := List.take_of_length_le (by omega)
      rw [he] at hown
      have HO := Lib.hid hown
      have HB := Lib.hid hB
      clear hown hB he
      go_wp2_with fail
      go_ret
      exact ⟨_, rfl, HO.out, HB.out⟩

set_option maxRecDepth 100000 in
set_option maxHeartbeats 1000000 in
/-- Two slices of the same numbers are the same. -/
theorem same_any (l : List Int) (a1 a2 : Option Addr) (c1 c2 : Nat) (w : World) (h1 : intsAt w a1 l) (h2 : intsAt w a2 l) (hl : l.length ≤ maxLen) :
    Calls Tryd.prog 14 #[.slice a1 l.length c1, .slice a2 l.length c2] w fun e w' => e = .returned (.bool true) ∧ Below w.heap.size w w' := by
  unfold maxLen at hl
  have H1 := Lib.hid h1
  have H2 := Lib.hid h2
  have hne : ((l.length : Int) != (l.length : Int)) = false := by simp
  clear h1 h2
  go_enter Tryd.func14, Tryd.ntmps14
  go_wp2_with fail
  go_loopw [5] (fun i wr => ∃ k : Nat, k ≤ l.length ∧ i = .int .i64 k ∧ Below w.heap.size w wr) (fun i _ => l.length - (intOf i).toNat)
  case atStart => exact ⟨0, by omega, rfl, Below.refl _ _⟩
  case round =>
    obtain ⟨k, hk, rfl, hB⟩ := hrel
    by_cases hlt : k < l.length
    · obtain ⟨x, hx⟩ : ∃ x, l[k]? = some x := ⟨_, List.getElem?_eq_getElem hlt⟩
      obtain ⟨b, o, rfl, d1⟩ := H1.out _ _ hx
      obtain ⟨b2, o2, rfl, d2⟩ := H2.out _ _ hx
      have d1 := below_cell hB (World.block_lt_of_cell? w _ d1) d1
      have d2 := below_cell hB (World.block_lt_of_cell? w _ d2) d2
      have hxx : (x != x) = false := by simp
      have HB := Lib.hid hB
      clear hx hB
      go_wp2_with fail
      go_quiet (fail)
      go_wp2_with fail
      exact ⟨⟨k + 1, by omega, by go_num, below_drewN HB.out _⟩, by simp [intOf]; omega⟩
    · have HB := Lib.hid hB
      clear hB
      go_wp2_with fail
      go_ret
      exact ⟨rfl, HB.out⟩
end Go.Proofs.YtgbbldbkkmjedaaDoor
