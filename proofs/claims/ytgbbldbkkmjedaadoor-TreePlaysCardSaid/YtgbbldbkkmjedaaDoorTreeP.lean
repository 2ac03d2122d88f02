/- What is wrong with a span of a number that is to come (Add). The span of a number is taken out of a Tree (Drop). -/
import Derived.Test.YtgbbldbkkmjedaaDoorTreeK
namespace Go.Proofs.YtgbbldbkkmjedaaDoor
open Go.RowKit Go.Deep Go.Shelf Go.Sort Go.Maps

def errV (n : Int) : Value := .iface 39 (.int .i64 n)
set_option maxRecDepth 100000 in
theorem tadd_range (id f to : Int) (w : World) (v : Value) (h : id < 0 ∨ 1048576 < id) :
    Calls Tryd.prog 8 #[v, .int .i64 id, .agg #[.int .i64 f, .int .i64 to]] w fun e w' => e = .returned (errV 2) ∧ Below w.heap.size w w' := by
  unfold errV
  by_cases h0 : id < 0
  · go_enter Tryd.func8, Tryd.ntmps8
    go_wp2_with fail
    go_ret
    exact ⟨rfl, (Below.refl _ _).alloc (Nat.le_refl _) _⟩
  · have h1 : 1048576 < id := by omega
    clear h
    go_enter Tryd.func8, Tryd.ntmps8
    go_wp2_with fail
    go_ret
    exact ⟨rfl, (Below.refl _ _).alloc (Nat.le_refl _) _⟩
set_option maxRecDepth 100000 in
theorem tadd_arg (id f to : Int) (w : World) (v : Value) (h0 : 0 ≤ id) (h1 : id ≤ 1048576) (hr : rightB f to = false) :
    Calls Tryd.prog 8 #[v, .int .i64 id, .agg #[.int .i64 f, .int .i64 to]] w fun e w' => e = .returned (errV 1) ∧ Below w.heap.size w w' := by
  unfold errV
  have hR := fun W => right_any f to W
  rw [hr] at hR
  clear hr
  go_enter Tryd.func8, Tryd.ntmps8
  go_wp2_with fail
  refine (hR _).mono ?_
  rintro e w1 ⟨rfl, b1⟩
  have B1 : Below w.heap.size w w1 := ((Below.refl _ w).alloc (Nat.le_refl _) _).trans (b1.mono (by simp))
  have HB1 := Lib.hid B1
  clear hR b1 B1
  go_wp2_with fail
  go_ret
  exact ⟨rfl, HB1.out⟩

set_option maxRecDepth 100000 in
set_option maxHeartbeats 2000000 in
theorem tadd_twice (id f to : Int) (w : World) (tb : Nat) (L : List It) (t : BT Nd) (mb : Option Nat) (h : TreeAt w tb L t mb) (h0 : 0 ≤ id) (h1 : id ≤ 1048576) (hr : rightB f to = true)
    (hx : L.any (fun y => y.2.1 == id) = true) :
    Calls Tryd.prog 8 #[.pointer (some ⟨tb, 0, none⟩), .int .i64 id, .agg #[.int .i64 f, .int .i64 to]] w fun e w' => e = .returned (errV 9) ∧ Below w.heap.size w w' := by
  unfold errV
  cases mb with
  | none =>
    have hL : L = [] := h.mp
    subst hL; cases hx
  | some m =>
    have hR := fun W => right_any f to W
    rw [hr] at hR
    have hi : i64 id := ⟨by omega, by omega⟩
    have HI := Lib.hid hi
    have HH := Lib.hid h
    have htb : tb < w.heap.size := h.lt tb (Or.inl rfl)
    have HX := Lib.hid hx
    have hc := h.cells
    obtain ⟨tp, et⟩ := ptr_some t
    rw [et] at hc
    have HC := Lib.hid hc
    clear hr hi h hx hc et
    go_enter Tryd.func8, Tryd.ntmps8
    go_wp2_with fail
    refine (hR _).mono ?_
    rintro e w1 ⟨rfl, b1⟩
    have B1 : Below w.heap.size w w1 := ((Below.refl _ w).alloc (Nat.le_refl _) _).trans (b1.mono (by simp))
    have hc1 := (B1.block tb htb).trans HC.out
    have H1 := HH.out.below B1
    obtain ⟨D, hown, hD⟩ := H1.mp
    have hhas : Maps.has D (.int .i64 id) = true := (hD.has id).trans HX.out
    have HHAS := Lib.hid hhas
    have HB1 := Lib.hid B1
    have hs1 := B1.size
    obtain ⟨c0, c1, f0, f1⟩ := tree_cells hc1
    have htb1 : tb < w1.heap.size := by omega
    clear b1 B1 hc1 hhas hD H1 hR
    go_wp2_with (at_lookup; refine wpList_lookup_own_ok _ rfl _ _ 24 rfl 3 34 intLaw Tryd.underlying24 spanR (zeroSpan _) (spanD 0 0) [] rfl m L.length D rfl hown _ _ rfl (keyOf_int_mk Tryd.underlying3 (wfI HI.out)) ?_; intro v ps hv; obtain ⟨vf, vt, rfl, hv2⟩ := spanR_inv hv; rw [HHAS.out]; clear hv hv2)
    go_ret
    exact ⟨rfl, HB1.out.alloc (by omega) _⟩

set_option maxRecDepth 100000 in
set_option maxHeartbeats 2000000 in
theorem tadd_full (id f to : Int) (w : World) (tb : Nat) (L : List It) (t : BT Nd) (mb : Option Nat) (h : TreeAt w tb L t mb) (h0 : 0 ≤ id) (h1 : id ≤ 1048576) (hr : rightB f to = true)
    (hx : L.any (fun y => y.2.1 == id) = false) (hl : 4000 ≤ L.length) :
    Calls Tryd.prog 8 #[.pointer (some ⟨tb, 0, none⟩), .int .i64 id, .agg #[.int .i64 f, .int .i64 to]] w fun e w' => e = .returned (errV 12) ∧ Below w.heap.size w w' := by
  unfold errV
  cases mb with
  | none =>
    have hL : L = [] := h.mp
    subst hL; simp at hl
  | some m =>
    have hR := fun W => right_any f to W
    rw [hr] at hR
    have hi : i64 id := ⟨by omega, by omega⟩
    have HI := Lib.hid hi
    have HH := Lib.hid h
    have htb : tb < w.heap.size := h.lt tb (Or.inl rfl)
    have HX := Lib.hid hx
    have hc := h.cells
    obtain ⟨tp, et⟩ := ptr_some t
    rw [et] at hc
    have HC := Lib.hid hc
    clear hr hi h hx hc et
    go_enter Tryd.func8, Tryd.ntmps8
    go_wp2_with fail
    refine (hR _).mono ?_
    rintro e w1 ⟨rfl, b1⟩
    have B1 : Below w.heap.size w w1 := ((Below.refl _ w).alloc (Nat.le_refl _) _).trans (b1.mono (by simp))
    have hc1 := (B1.block tb htb).trans HC.out
    have H1 := HH.out.below B1
    obtain ⟨D, hown, hD⟩ := H1.mp
    have hhas : Maps.has D (.int .i64 id) = false := (hD.has id).trans HX.out
    have hsz : 4000 ≤ Maps.size D := by rw [hD.size]; exact hl
    have HHAS := Lib.hid hhas
    have HB1 := Lib.hid B1
    have hs1 := B1.size
    obtain ⟨c0, c1, f0, f1⟩ := tree_cells hc1
    have htb1 : tb < w1.heap.size := by omega
    clear b1 B1 hc1 hhas hD H1 hR
    go_wp2_with (first
    | (at_lookup; refine wpList_lookup_own_ok _ rfl _ _ 24 rfl 3 34 intLaw Tryd.underlying24 spanR (zeroSpan _) (spanD 0 0) [] rfl m L.length D rfl hown _ _ rfl (keyOf_int_mk Tryd.underlying3 (wfI HI.out)) ?_; intro v ps hv; obtain ⟨vf, vt, rfl, hv2⟩ := spanR_inv hv; rw [HHAS.out]; clear hv hv2)
    | (at_len; refine wpList_len_own _ rfl _ 24 rfl 3 34 Tryd.underlying24 _ m L.length D rfl (hown.alloc _) ?_))
    go_ret
    exact ⟨rfl, HB1.out.alloc (by omega) _⟩
end Go.Proofs.YtgbbldbkkmjedaaDoor
namespace Go.Proofs.YtgbbldbkkmjedaaDoor
open Go.RowKit Go.Deep Go.Shelf Go.Sort Go.Maps

set_option maxRecDepth 100000 in
set_option maxHeartbeats 2000000 in
theorem tdrop_missing (id : Int) (hi : i64 id) (w : World) (tb : Nat) (L : List It) (t : BT Nd) (mb : Option Nat) (h : TreeAt w tb L t mb) (hx : L.any (fun y => y.2.1 == id) = false) :
    Calls Tryd.prog 12 #[.pointer (some ⟨tb, 0, none⟩), .int .i64 id] w fun e w' => e = .returned (errV 7) ∧ Below w.heap.size w w' := by
  unfold errV
  have htb : tb < w.heap.size := h.lt tb (Or.inl rfl)
  have hc := h.cells
  obtain ⟨tp, et⟩ := ptr_some t
  rw [et] at hc
  have HI := Lib.hid hi
  cases mb with
  | none =>
    have hln := fun W => lookNil id hi W
    obtain ⟨c0, c1, f0, f1⟩ := tree_cells hc
    clear hc et hx h hi
    go_enter Tryd.func12, Tryd.ntmps12
    go_wp2_with fail
    go_ret
    exact ⟨rfl, (Below.refl _ _).alloc (Nat.le_refl _) _⟩
  | some m =>
    obtain ⟨D, hown, hD⟩ := h.mp
    have hhas : Maps.has D (.int .i64 id) = false := (hD.has id).trans hx
    have HHAS := Lib.hid hhas
    obtain ⟨c0, c1, f0, f1⟩ := tree_cells hc
    clear hc et hx h hhas hD hi
    go_enter Tryd.func12, Tryd.ntmps12
    go_wp2_with (at_lookup; refine wpList_lookup_own_ok _ rfl _ _ 24 rfl 3 34 intLaw Tryd.underlying24 spanR (zeroSpan _) (spanD 0 0) [] rfl m L.length D rfl hown _ _ rfl (keyOf_int_mk Tryd.underlying3 (wfI HI.out)) ?_; intro v ps hv; obtain ⟨vf, vt, rfl, hv2⟩ := spanR_inv hv; rw [HHAS.out]; clear hv hv2)
    go_ret
    exact ⟨rfl, (Below.refl _ _).alloc (Nat.le_refl _) _⟩

def TDropped (tb : Nat) (L : List It) (t : BT Nd) (mb : Option Nat) (w : World) (e : Ending) (w' : World) : Prop :=
  ∃ t' mb', e = .returned .nilIface ∧ TreeAt w' tb L t' mb' ∧ Fr (foot tb t mb) w w' ∧ ∀ k, foot tb t' mb' k → foot tb t mb k

theorem tdropped {w w3 w4 : World} {tb : Nat} {L : List It} {t : BT Nd} {m : Nat} {x : It} {u : Option Addr} (h : TreeAt w tb (x :: L) t (some m)) (hf3 : Fr (foot tb t (some m)) w w3)
    (hc3 : w3.heap[tb]? = some (.cells #[t.ptr, .map (some m)] 26 (0, 0))) (hmp : mapAt w3 L (some m)) (hT : treeIn w4 (dropT t x)) (hF : Fr (· ∈ blocksT t) w3 w4) (hu : (dropT t x).ptr = .pointer u) :
    TDropped tb L t (some m) w (.returned .nilIface) (w4.setCell ⟨tb, 0, none⟩ (.pointer u)) := by
  have hx : x ∈ itemsT t := h.perm.mem_iff.2 (by simp)
  obtain ⟨d1, d2, d3⟩ := drop_spec x h.fit h.srt h.ids hx
  obtain ⟨e1, e2⟩ := drop_blocks x h.fit h.srt h.ids hx h.sep
  have hm := h.nm m rfl
  have FS : Fr (· = tb) w4 (w4.setCell ⟨tb, 0, none⟩ (.pointer u)) := Fr.setCell (F := (· = tb)) (Fr.refl _ w4) (p := ⟨tb, 0, none⟩) (fun _ => rfl) _
  have hnt : tb ∉ blocksT (dropT t x) := fun e => h.nt (e2 _ e)
  refine ⟨dropT t x, some m, rfl, ⟨?_, treeIn.frame FS hT (fun k hk e => by subst e; exact hnt hk), e1, d1, (drop_bal x h.fit h.bal).2.1, d2, ?_, List.Perm.cons_inv (d3.symm.trans h.perm), ?_, hnt, ?_⟩, ?_, ?_⟩
  · rw [hu]; exact tree_set0 (hF.keeps hc3 h.nt) _
  · have := (d3.map (·.2.1)).nodup_iff.1 h.ids
    rw [List.map_cons, List.nodup_cons] at this
    exact this.2
  · exact (hmp.frame hF (fun k e => by cases e; exact hm.1)).frame FS (fun k e => by cases e; exact hm.2)
  · rintro k e
    cases e
    exact ⟨fun e => hm.1 (e2 _ e), hm.2⟩
  · exact (hf3.next hF (fun k _ e => Or.inr (Or.inl e))).next FS (fun k _ e => Or.inl e)
  · intro k hk
    rcases hk with e | e | e
    · exact Or.inl e
    · exact Or.inr (Or.inl (e2 _ e))
    · exact Or.inr (Or.inr e)

set_option maxRecDepth 100000 in
set_option maxHeartbeats 4000000 in
theorem tdrop_ok (id f to : Int) (hi : i64 id) (w : World) (tb : Nat) (L : List It) (t : BT Nd) (mb : Option Nat) (h : TreeAt w tb ((f, id, to) :: L) t mb) (hlen : L.length < 4000) :
    Calls Tryd.prog 12 #[.pointer (some ⟨tb, 0, none⟩), .int .i64 id] w (TDropped tb L t mb w) := by
  cases mb with
  | none => have := h.mp; cases this
  | some m =>
    obtain ⟨tp, et⟩ := ptr_some t
    have ET := Lib.hid et
    have HI := Lib.hid hi
    have htb : tb < w.heap.size := h.lt tb (Or.inl rfl)
    have hx : (f, id, to) ∈ itemsT t := h.perm.mem_iff.2 (by simp)
    have hok : DropOk t (f, id, to) := ⟨h.sep, h.fit, h.srt, h.ids, hx, by rw [h.perm.length_eq]; simp; omega⟩
    have hLn : L.any (fun y => y.2.1 == id) = false := by
      have := (h.perm.map (·.2.1)).nodup_iff.1 h.ids
      rw [List.map_cons, List.nodup_cons] at this
      rw [Bool.eq_false_iff]; intro e
      obtain ⟨y, hy, e⟩ := List.any_eq_true.1 e
      exact this.1 (List.mem_map.2 ⟨y, hy, by simpa using e⟩)
    obtain ⟨D, hown, hD⟩ := h.mp
    have hhas : Maps.has D (.int .i64 id) = true := (hD.has id).trans (by simp)
    have hat : D.atKey (.int .i64 id) (spanD 0 0) = spanD f to := hD.at' (f, id, to) (by simp) _
    have hc := h.cells
    rw [et] at hc
    have HHAS := Lib.hid hhas
    have HAT := Lib.hid hat
    have HD := Lib.hid hD
    have HH := Lib.hid h
    have HOK := Lib.hid hok
    have HLN := Lib.hid hLn
    have HC := Lib.hid hc
    obtain ⟨c0, c1, f0, f1⟩ := tree_cells hc
    clear et hi hx hok hLn hhas hat hD hc h
    go_enter Tryd.func12, Tryd.ntmps12
    go_wp2_with (first
      | (at_lookup; refine wpList_lookup_own_ok _ rfl _ _ 24 rfl 3 34 intLaw Tryd.underlying24 spanR (zeroSpan _) (spanD 0 0) [] rfl m (L.length + 1) D rfl hown _ _ rfl (keyOf_int_mk Tryd.underlying3 (wfI HI.out)) ?_; intro v ps hv; obtain ⟨vf, vt, rfl, hv2⟩ := spanR_inv hv; rw [HHAS.out]; have hv3 := spanD_inj (HAT.out.symm.trans (congrArg Prod.fst hv2)); obtain ⟨rfl, rfl⟩ := hv3; clear hv hv2)
      | (at_delete; refine wpList_delete_own _ rfl _ _ 24 3 rfl 34 intLaw Tryd.underlying24 spanR m (L.length + 1) D rfl (hown.alloc _) _ _ rfl (keyOf_int_mk Tryd.underlying3 (wfI HI.out)) ?_; intro w3 hown3 hturn3))
    have G3 := Fr.ofGrown hturn3.grown
    have hm := HH.out.nm m rfl
    have hml : m < w.heap.size := HH.out.lt m (Or.inr (Or.inr rfl))
    have F3 : Fr (foot tb t (some m)) w w3 := (Fr.alloc (Fr.refl (foot tb t (some m)) w) _).next G3 (fun k _ e => Or.inr (Or.inr (by rw [e])))
    have T3 : treeIn w3 t := treeIn.frame G3 (treeIn.frame (F := fun _ => False) (Fr.alloc (Fr.refl _ w) _) HH.out.tin (fun _ _ e => e)) (fun k hk e => by subst e; exact hm.1 hk)
    have hc3 := G3.keeps (block_alloc HC.out _) (fun e => hm.2 e.symm)
    have k1 : w3.cell? ⟨w.heap.size, 0, none⟩ = some (.int .i64 f) := by
      have e := G3.block w.heap.size (by simp) (by omega)
      exact (World.cell?_of_block (a := ⟨w.heap.size, 0, none⟩) e).trans (by simp)
    have k2 : w3.cell? ⟨w.heap.size, 1, none⟩ = some (.int .i64 to) := by
      have e := G3.block w.heap.size (by simp) (by omega)
      exact (World.cell?_of_block (a := ⟨w.heap.size, 1, none⟩) e).trans (by simp)
    have hD2 := MapIs.del (f, id, to) HD.out HLN.out
    have hmp : mapAt w3 L (some m) := ⟨_, by have := owns_tight hown3; rw [show Maps.size (D.del (.int .i64 id)) = L.length from hD2.size] at this; exact this, hD2⟩
    have HMP := Lib.hid hmp
    have HC3 := Lib.hid hc3
    obtain ⟨c0', _, f0', _⟩ := tree_cells hc3
    clear hown3 hturn3 G3 hmp hc3 hD2 c0 c1 f0 f1 hown
    go_wp2_with fail
    go_region_with ((go_at_call 55; rw [← ET.out]; refine (drop_any t (f, id, to) _ (by exact T3) HOK.out).mono ?_; rintro e w4 ⟨rfl, T4, F4⟩; obtain ⟨u, hu⟩ := ptr_some (dropT t (f, id, to)); rw [hu]; have HU := Lib.hid hu; clear hu; have hc4 := F4.keeps (b := tb) HC3.out HH.out.nt; obtain ⟨c0'', _, f0'', _⟩ := tree_cells hc4))
    all_goals
      have hend := tdropped (w4 := w4) HH.out F3.drew (by rw [ET.out]; exact HC3.out) HMP.out T4 F4 HU.out
      have HE := Lib.hid hend
      clear hend
      go_wp2_with fail
      go_ret
      exact HE.out
end Go.Proofs.YtgbbldbkkmjedaaDoor
