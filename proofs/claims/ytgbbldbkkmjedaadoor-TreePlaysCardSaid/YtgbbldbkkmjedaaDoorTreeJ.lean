/- A span of a number is put into a Tree (Add), where all is well. -/
import Derived.Test.YtgbbldbkkmjedaaDoorTreeI
namespace Go.Proofs.YtgbbldbkkmjedaaDoor
open Go.RowKit Go.Deep Go.Shelf Go.Sort Go.Maps

def TAdded (tb : Nat) (L : List It) (t : BT Nd) (mb : Option Nat) (x : It) (w : World) (e : Ending) (w' : World) : Prop :=
  ∃ t' mb', e = .returned .nilIface ∧ TreeAt w' tb (x :: L) t' mb' ∧ Fr (foot tb t mb) w w' ∧ ∀ k, foot tb t' mb' k → foot tb t mb k ∨ w.heap.size ≤ k

/-- What is left of Add once the map holds the span: the tree, and the root stored. -/
theorem tadded {w w3 w4 : World} {tb : Nat} {L : List It} {t : BT Nd} {mb : Option Nat} {m : Nat} {x : It} {nb : Nat} {u : Option Addr} (h : TreeAt w tb L t mb) (hm : mb = some m ∨ w.heap.size ≤ m)
    (hx : L.any (fun y => y.2.1 == x.2.1) = false) (hf3 : Fr (foot tb t mb) w w3) (hc3 : w3.heap[tb]? = some (.cells #[t.ptr, .map (some m)] 26 (0, 0))) (hmp : mapAt w3 (x :: L) (some m))
    (hnb : w3.heap.size ≤ nb) (hT : treeIn w4 (addT nb x t)) (hF : Fr (· ∈ blocksT t) w3 w4) (hu : (addT nb x t).ptr = .pointer u) (hmt : m ∉ blocksT t) :
    TAdded tb L t mb x w (.returned .nilIface) (w4.setCell ⟨tb, 0, none⟩ (.pointer u)) := by
  have hp := add_blocks nb x h.fit
  have hi := add_perm nb x h.fit
  have htb : tb < w.heap.size := h.lt tb (Or.inl rfl)
  have hm3 : m < w3.heap.size := by obtain ⟨D, h1, _⟩ := hmp; exact h1.lt
  have hmtb : m ≠ tb := by
    rcases hm with e | e
    · exact (h.nm m e).2
    · omega
  have hs := hf3.size
  have FS : Fr (· = tb) w4 (w4.setCell ⟨tb, 0, none⟩ (.pointer u)) := Fr.setCell (F := (· = tb)) (Fr.refl _ w4) (p := ⟨tb, 0, none⟩) (fun _ => rfl) _
  have hnt : tb ∉ blocksT (addT nb x t) := fun e => by
    rcases List.mem_cons.1 (hp.mem_iff.1 e) with e | e
    · omega
    · exact h.nt e
  have hids : ∀ y ∈ itemsT t, y.2.1 ≠ x.2.1 := fun y hy e => by
    have : L.any (fun y => y.2.1 == x.2.1) = true := List.any_eq_true.2 ⟨y, h.perm.mem_iff.1 hy, by simp [e]⟩
    rw [hx] at this; cases this
  refine ⟨addT nb x t, some m, rfl, ⟨?_, treeIn.frame FS hT (fun k hk e => by subst e; exact hnt hk), ?_, add_fit nb x h.fit, (add_bal nb x h.fit h.bal).1, add_srt nb x h.fit h.srt hids, ?_, hi.trans (h.perm.cons x), ?_, hnt, ?_⟩, ?_, ?_⟩
  · rw [hu]; exact tree_set0 (hF.keeps hc3 h.nt) _
  · refine hp.nodup_iff.2 (List.nodup_cons.2 ⟨fun e => ?_, h.sep⟩)
    have := h.lt nb (Or.inr (Or.inl e)); omega
  · refine (hi.map _).nodup_iff.2 ?_
    rw [List.map_cons, List.nodup_cons]
    exact ⟨fun e => by obtain ⟨y, hy, e⟩ := List.mem_map.1 e; exact hids y hy e, h.ids⟩
  · exact (hmp.frame hF (fun k e => by cases e; exact hmt)).frame FS (fun k e => by cases e; exact hmtb)
  · rintro k e
    cases e
    refine ⟨fun e => ?_, hmtb⟩
    rcases List.mem_cons.1 (hp.mem_iff.1 e) with e | e
    · omega
    · exact hmt e
  · exact (hf3.next hF (fun k _ e => Or.inr (Or.inl e))).next FS (fun k _ e => Or.inl e)
  · intro k hk
    rcases hk with e | e | e
    · exact Or.inl (Or.inl e)
    · rcases List.mem_cons.1 (hp.mem_iff.1 e) with e | e
      · exact Or.inr (by omega)
      · exact Or.inl (Or.inr (Or.inl e))
    · cases e
      rcases hm with e | e
      · exact Or.inl (Or.inr (Or.inr e))
      · exact Or.inr e

set_option maxRecDepth 100000 in
set_option maxHeartbeats 4000000 in
theorem tadd_some (id f to : Int) (w : World) (tb : Nat) (L : List It) (t : BT Nd) (m : Nat) (h : TreeAt w tb L t (some m)) (h0 : 0 ≤ id) (h1 : id ≤ 1048576) (hr : rightB f to = true)
    (hx : L.any (fun y => y.2.1 == id) = false) (hl : L.length < 4000) :
    Calls Tryd.prog 8 #[.pointer (some ⟨tb, 0, none⟩), .int .i64 id, .agg #[.int .i64 f, .int .i64 to]] w (TAdded tb L t (some m) (f, id, to) w) := by
  have hR := fun W => right_any f to W
  rw [hr] at hR
  obtain ⟨tp, et⟩ := ptr_some t
  have ET := Lib.hid et
  have hi : i64 id := ⟨by omega, by omega⟩
  have HI := Lib.hid hi
  have HH := Lib.hid h
  have htb : tb < w.heap.size := h.lt tb (Or.inl rfl)
  have HX := Lib.hid hx
  have hc := h.cells
  rw [et] at hc
  clear hr et hi h hx
  have hqm := fun (w : World) => run_eql_map_nil (P := Tryd.prog) w 24 3 34 (some m) Tryd.underlying24
  go_enter Tryd.func8, Tryd.ntmps8
  go_wp2_with fail
  refine (hR _).mono ?_
  rintro e w1 ⟨rfl, b1⟩
  have B1 : Below w.heap.size w w1 := ((Below.refl _ w).alloc (Nat.le_refl _) _).trans (b1.mono (by simp))
  have k1 : w1.cell? ⟨w.heap.size, 0, none⟩ = some (.int .i64 f) := (b1.cell (p := ⟨w.heap.size, 0, none⟩) (by simp)).trans (by simp)
  have k2 : w1.cell? ⟨w.heap.size, 1, none⟩ = some (.int .i64 to) := (b1.cell (p := ⟨w.heap.size, 1, none⟩) (by simp)).trans (by simp)
  have s1 : w.heap.size < w1.heap.size := by have := b1.size; simp at this; omega
  have hc1 := (B1.block tb htb).trans hc
  have H1 := HH.out.below B1
  obtain ⟨D, hown, hD⟩ := H1.mp
  have hhas : Maps.has D (.int .i64 id) = false := (hD.has id).trans HX.out
  have hsz : Maps.size D < 4000 := by rw [hD.size]; exact hl
  have HHAS := Lib.hid hhas
  have HD := Lib.hid hD
  have HH1 := Lib.hid H1
  have HB1 := Lib.hid B1
  obtain ⟨c0, c1, f0, f1⟩ := tree_cells hc1
  have htb1 : tb < w1.heap.size := by omega
  have HC1 := Lib.hid hc1
  clear b1 B1 hc hc1 hhas hD H1 hR
  go_wp2_with (first
    | (at_lookup; refine wpList_lookup_own_ok _ rfl _ _ 24 rfl 3 34 intLaw Tryd.underlying24 spanR (zeroSpan _) (spanD 0 0) [] rfl m L.length D rfl hown _ _ rfl (keyOf_int_mk Tryd.underlying3 (wfI HI.out)) ?_; intro v ps hv; obtain ⟨vf, vt, rfl, hv2⟩ := spanR_inv hv; rw [HHAS.out]; clear hv hv2)
    | (at_len; refine wpList_len_own _ rfl _ 24 rfl 3 34 Tryd.underlying24 _ m L.length D rfl (hown.alloc _) ?_))
  obtain ⟨W2, hW2⟩ : ∃ W2, W2 = w1.alloc (.cells #[.int .i64 vf, .int .i64 vt] 34) := ⟨_, rfl⟩
  rw [← hW2]
  have B2 : Below w1.heap.size w1 W2 := by rw [hW2]; exact (Below.refl _ _).alloc (Nat.le_refl _) _
  have hown2 : W2.ownsMap Tryd.prog 3 spanR m L.length D := by rw [hW2]; exact hown.alloc _
  have hc2 := (B2.block tb htb1).trans HC1.out
  have k1' : W2.cell? ⟨w.heap.size, 0, none⟩ = some (.int .i64 f) := (B2.cell (p := ⟨w.heap.size, 0, none⟩) s1).trans k1
  have k2' : W2.cell? ⟨w.heap.size, 1, none⟩ = some (.int .i64 to) := (B2.cell (p := ⟨w.heap.size, 1, none⟩) s1).trans k2
  obtain ⟨c0', c1', _, _⟩ := tree_cells hc2
  have HC2 := Lib.hid hc2
  have HHB := Lib.hid (HB1.out.trans (B2.mono (by omega)))
  clear hW2 hc2 k1 k2 c0 c1 f0 f1 hown
  refine wp_region_tail 6 (by kernel_rfl) (by kernel_rfl) ?_
  simp only [List.take_succ_cons, List.take_zero, List.drop_succ_cons, List.drop_zero]
  repeat still_step
  refine wpStill_nil ?_
  go_wp2_with (at_mapUpdate; refine wpList_mapUpdate_own _ rfl _ _ _ 24 rfl 3 34 intLaw Tryd.underlying24 spanR m L.length D rfl (World.ownsMap.drew hown2) (by unfold maxLen; omega) _ _ _ rfl rfl (keyOf_int_mk Tryd.underlying3 (wfI HI.out)) (spanD f to) [] rfl ?_; intro w3 hown3 hgrow3)
  have G3 := Fr.ofGrown hgrow3
  have hm := HH.out.nm m rfl
  have hml : m < w.heap.size := HH.out.lt m (Or.inr (Or.inr rfl))
  have F3 : Fr (foot tb t (some m)) w w3 := (Fr.new (HHB.out.drew)).next G3 (fun k _ e => Or.inr (Or.inr (by rw [e])))
  have T3 : treeIn w3 t := treeIn.frame G3 ((HH.out.below HHB.out).tin) (fun k hk e => by subst e; exact hm.1 hk)
  have hc3 := G3.keeps HC2.out (fun e => hm.2 e.symm)
  have hb0 : w.heap.size < W2.heap.size := by have := B2.size; omega
  have k1 : w3.cell? ⟨w.heap.size, 0, none⟩ = some (.int .i64 f) := by
    have e := G3.block w.heap.size hb0 (by omega)
    exact (World.cell?_of_block (w := W2.drew) (a := ⟨w.heap.size, 0, none⟩) e).trans k1'
  have k2 : w3.cell? ⟨w.heap.size, 1, none⟩ = some (.int .i64 to) := by
    have e := G3.block w.heap.size hb0 (by omega)
    exact (World.cell?_of_block (w := W2.drew) (a := ⟨w.heap.size, 1, none⟩) e).trans k2'
  have hmp : mapAt w3 ((f, id, to) :: L) (some m) := ⟨_, hown3, HD.out.put (f, id, to) HX.out⟩
  have HMP := Lib.hid hmp
  have HC3 := Lib.hid hc3
  obtain ⟨c0, _, f0, _⟩ := tree_cells hc3
  clear hown3 hgrow3 G3 hmp hc3 k1' k2' c0' c1' hown2 B2
  go_wp2_with fail
  go_region_with ((go_at_call 52; rw [← ET.out]; refine (add_any id f to t _ (by exact T3) HH.out.sep HH.out.fit (by have := HH.out.perm.length_eq; omega)).mono ?_; rintro e w4 ⟨nb, hnb, rfl, T4, F4⟩; obtain ⟨u, hu⟩ := ptr_some (addT nb (f, id, to) t); rw [hu]; have HU := Lib.hid hu; clear hu; have hc4 := F4.keeps (b := tb) HC3.out HH.out.nt; obtain ⟨c0', _, f0', _⟩ := tree_cells hc4))
  all_goals
    have hend := tadded (w4 := w4) HH.out (Or.inl rfl) HX.out F3.drew (by rw [ET.out]; exact HC3.out) HMP.out hnb T4 F4 HU.out hm.1
    have HE := Lib.hid hend
    clear hend
    go_wp2_with fail
    go_ret
    exact HE.out
end Go.Proofs.YtgbbldbkkmjedaaDoor
