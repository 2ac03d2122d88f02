/- The first span of a number is put into a Tree (Add): the map is made. -/
import Derived.Test.YtgbbldbkkmjedaaDoorTreeJ
namespace Go.Proofs.YtgbbldbkkmjedaaDoor
open Go.RowKit Go.Deep Go.Shelf Go.Sort Go.Maps

set_option maxRecDepth 100000 in
set_option maxHeartbeats 4000000 in
theorem tadd_none (id f to : Int) (w : World) (tb : Nat) (t : BT Nd) (h : TreeAt w tb [] t none) (h0 : 0 ≤ id) (h1 : id ≤ 1048576) (hr : rightB f to = true) :
    Calls Tryd.prog 8 #[.pointer (some ⟨tb, 0, none⟩), .int .i64 id, .agg #[.int .i64 f, .int .i64 to]] w (TAdded tb [] t none (f, id, to) w) := by
  have hR := fun W => right_any f to W
  rw [hr] at hR
  obtain ⟨tp, et⟩ := ptr_some t
  have ET := Lib.hid et
  have hi : i64 id := ⟨by omega, by omega⟩
  have HI := Lib.hid hi
  have HH := Lib.hid h
  have htb : tb < w.heap.size := h.lt tb (Or.inl rfl)
  have hc := h.cells
  rw [et] at hc
  have hln := fun W => lookNil id hi W
  have hle := fun W => lenNil 3 W
  have hqm := fun (w : World) => run_eql_map_nil (P := Tryd.prog) w 24 3 34 none Tryd.underlying24
  have hmm := @run_makeMap Tryd.prog
  clear hr et hi h
  go_enter Tryd.func8, Tryd.ntmps8
  go_wp2_with fail
  refine (hR _).mono ?_
  rintro e w1 ⟨rfl, b1⟩
  have B1 : Below w.heap.size w w1 := ((Below.refl _ w).alloc (Nat.le_refl _) _).trans (b1.mono (by simp))
  have k1 : w1.cell? ⟨w.heap.size, 0, none⟩ = some (.int .i64 f) := (b1.cell (p := ⟨w.heap.size, 0, none⟩) (by simp)).trans (by simp)
  have k2 : w1.cell? ⟨w.heap.size, 1, none⟩ = some (.int .i64 to) := (b1.cell (p := ⟨w.heap.size, 1, none⟩) (by simp)).trans (by simp)
  have s1 : w.heap.size < w1.heap.size := by have := b1.size; simp at this; omega
  have hc1 := (B1.block tb htb).trans hc
  have HB1 := Lib.hid B1
  obtain ⟨c0, c1, f0, f1⟩ := tree_cells hc1
  have htb1 : tb < w1.heap.size := by omega
  have HC1 := Lib.hid hc1
  clear b1 B1 hc hc1 hR
  go_wp2_with fail
  obtain ⟨m, hm⟩ : ∃ m, m = w1.heap.size + 1 := ⟨_, rfl⟩
  rw [← hm]
  obtain ⟨W2, hW2⟩ : ∃ W2, W2 = ((w1.setCell ⟨tb, 1, none⟩ (.map (some m))).alloc (.cells #[.int .i64 0, .int .i64 0] 34)).alloc (.map #[] 0) := ⟨_, rfl⟩
  rw [← hW2]
  have F2 : Fr (· = tb) w1 W2 := by rw [hW2]; exact ((Fr.setCell (F := (· = tb)) (Fr.refl _ w1) (p := ⟨tb, 1, none⟩) (fun _ => rfl) _).alloc _).alloc _
  have hs2 : W2.heap.size = w1.heap.size + 2 := by rw [hW2]; simp
  have hown2 : W2.ownsMap Tryd.prog 3 spanR m 0 (.map []) := by
    have e : ((w1.setCell ⟨tb, 1, none⟩ (.map (some m))).alloc (.cells #[.int .i64 0, .int .i64 0] 34)).heap.size = m := by simp [hm]
    rw [hW2]
    have := World.ownsMap_made ((w1.setCell ⟨tb, 1, none⟩ (.map (some m))).alloc (.cells #[.int .i64 0, .int .i64 0] 34)) Tryd.prog 3 spanR
    rw [e] at this
    exact this
  have hc2 : W2.heap[tb]? = some (.cells #[.pointer tp, .map (some m)] 26 (0, 0)) := by rw [hW2]; exact block_alloc (block_alloc (tree_set1 HC1.out _) _) _
  have hne : w.heap.size ≠ tb := by omega
  have k1' : W2.cell? ⟨w.heap.size, 0, none⟩ = some (.int .i64 f) := (World.cell?_of_block (w := w1) (a := ⟨w.heap.size, 0, none⟩) (F2.block w.heap.size s1 hne)).trans k1
  have k2' : W2.cell? ⟨w.heap.size, 1, none⟩ = some (.int .i64 to) := (World.cell?_of_block (w := w1) (a := ⟨w.heap.size, 1, none⟩) (F2.block w.heap.size s1 hne)).trans k2
  obtain ⟨c0', c1', _, _⟩ := tree_cells hc2
  have HC2 := Lib.hid hc2
  have HF2 := Lib.hid ((Fr.new (F := foot tb t none) HB1.out).next F2 (fun k _ e => Or.inl e))
  have HT2 := Lib.hid (treeIn.frame F2 ((HH.out.below HB1.out).tin) (fun k hk e => by subst e; exact HH.out.nt hk))
  have hmge : w.heap.size ≤ m := by omega
  have hml : m < W2.heap.size := by omega
  have hmg : w.heap.size < m := by omega
  have HM := Lib.hid hm
  clear hW2 hc2 k1 k2 c0 c1 f0 f1 F2 hln hle hqm hmm hm hs2
  refine wp_region_tail 6 (by kernel_rfl) (by kernel_rfl) ?_
  simp only [List.take_succ_cons, List.take_zero, List.drop_succ_cons, List.drop_zero]
  repeat still_step
  refine wpStill_nil ?_
  go_wp2_with (at_mapUpdate; refine wpList_mapUpdate_own _ rfl _ _ _ 24 rfl 3 34 intLaw Tryd.underlying24 spanR m 0 (.map []) rfl (World.ownsMap.drew hown2) (by unfold maxLen; omega) _ _ _ rfl rfl (keyOf_int_mk Tryd.underlying3 (wfI HI.out)) (spanD f to) [] rfl ?_; intro w3 hown3 hgrow3)
  have G3 := Fr.ofGrown hgrow3
  have F3 : Fr (foot tb t none) w w3 := ⟨G3.os.trans HF2.out.os, G3.tape.trans HF2.out.tape, G3.output.trans HF2.out.output, Nat.le_trans HF2.out.size G3.size, fun k hk hn => (G3.block k (Nat.lt_of_lt_of_le hk HF2.out.size) (by omega)).trans (HF2.out.block k hk hn)⟩
  have hmt : m ∉ blocksT t := fun e => by have := HH.out.lt m (Or.inr (Or.inl e)); omega
  have T3 : treeIn w3 t := treeIn.frame G3 HT2.out (fun k hk e => by subst e; exact hmt hk)
  have hc3 := G3.keeps HC2.out (fun e => by omega)
  have hb0 : w.heap.size < W2.heap.size := by omega
  have k1 : w3.cell? ⟨w.heap.size, 0, none⟩ = some (.int .i64 f) := by
    have e := G3.block w.heap.size hb0 (by omega)
    exact (World.cell?_of_block (w := W2.drew) (a := ⟨w.heap.size, 0, none⟩) e).trans k1'
  have k2 : w3.cell? ⟨w.heap.size, 1, none⟩ = some (.int .i64 to) := by
    have e := G3.block w.heap.size hb0 (by omega)
    exact (World.cell?_of_block (w := W2.drew) (a := ⟨w.heap.size, 1, none⟩) e).trans k2'
  have hmp : mapAt w3 [(f, id, to)] (some m) := ⟨_, hown3, mapIs_nil.put (f, id, to) rfl⟩
  have HMP := Lib.hid hmp
  have HC3 := Lib.hid hc3
  obtain ⟨c0, _, f0, _⟩ := tree_cells hc3
  clear hown3 hgrow3 G3 hmp hc3 k1' k2' c0' c1' hown2
  go_wp2_with fail
  go_region_with ((go_at_call 52; rw [← ET.out]; refine (add_any id f to t _ (by exact T3) HH.out.sep HH.out.fit (by rw [HH.out.perm.length_eq]; decide)).mono ?_; rintro e w4 ⟨nb, hnb, rfl, T4, F4⟩; obtain ⟨u, hu⟩ := ptr_some (addT nb (f, id, to) t); rw [hu]; have HU := Lib.hid hu; clear hu; have hc4 := F4.keeps (b := tb) HC3.out HH.out.nt; obtain ⟨c0', _, f0', _⟩ := tree_cells hc4))
  all_goals
    have hend := tadded (w4 := w4) HH.out (Or.inr hmge) rfl F3.drew (by rw [ET.out]; exact HC3.out) HMP.out hnb T4 F4 HU.out hmt
    have HE := Lib.hid hend
    clear hend
    go_wp2_with fail
    go_ret
    exact HE.out

/-- All is well: it is there. -/
theorem tadd_ok (id f to : Int) (w : World) (tb : Nat) (L : List It) (t : BT Nd) (mb : Option Nat) (h : TreeAt w tb L t mb) (h0 : 0 ≤ id) (h1 : id ≤ 1048576) (hr : rightB f to = true)
    (hx : L.any (fun y => y.2.1 == id) = false) (hl : L.length < 4000) :
    Calls Tryd.prog 8 #[.pointer (some ⟨tb, 0, none⟩), .int .i64 id, .agg #[.int .i64 f, .int .i64 to]] w (TAdded tb L t mb (f, id, to) w) := by
  cases mb with
  | some m => exact tadd_some id f to w tb L t m h h0 h1 hr hx hl
  | none =>
    have hL : L = [] := h.mp
    subst hL
    exact tadd_none id f to w tb t h h0 h1 hr
end Go.Proofs.YtgbbldbkkmjedaaDoor
