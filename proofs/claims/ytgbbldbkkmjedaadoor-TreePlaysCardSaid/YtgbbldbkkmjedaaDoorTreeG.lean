/- The span of a number goes from one side of a tree (drop). -/
import Derived.Test.YtgbbldbkkmjedaaDoorTreeF
namespace Go.Proofs.YtgbbldbkkmjedaaDoor
open Go.RowKit Go.Deep Go.Shelf Go.Sort

/-- What drop asks of a tree. -/
structure DropOk (t : BT Nd) (x : It) : Prop where
  sep : (blocksT t).Nodup
  fit : FitT t
  srt : SrtT (itemsT t)
  ids : ((itemsT t).map (·.2.1)).Nodup
  mem : x ∈ itemsT t
  len : (itemsT t).length < 549755813888
structure Dropped (t t' : BT Nd) : Prop where
  sep : (blocksT t').Nodup
  sub : ∀ k ∈ blocksT t', k ∈ blocksT t
  fit : FitT t'
  len : (itemsT t').length ≤ (itemsT t).length
theorem DropOk.out {t : BT Nd} {x : It} (h : DropOk t x) : Dropped t (dropT t x) := by
  obtain ⟨d1, d2, d3⟩ := drop_spec x h.fit h.srt h.ids h.mem
  obtain ⟨e1, e2⟩ := drop_blocks x h.fit h.srt h.ids h.mem h.sep
  exact ⟨e1, e2, d1, by have := d3.length_eq; simp at this; omega⟩

set_option maxRecDepth 100000 in
set_option maxHeartbeats 4000000 in
theorem drop_left (id f to : Int) (b : Nat) (a : Nd) (l r : BT Nd) (ihl : ∀ w, treeIn w l → Calls Tryd.prog 55 #[l.ptr, .int .i64 id, .agg #[.int .i64 f, .int .i64 to]] w (DropPost (f, id, to) l w))
    (w : World) (hin : treeIn w (.node b 0 a l r)) (hsep : (blocksT (.node b 0 a l r)).Nodup) (_hl : FitT l) (hr : FitT r) (hc : (itemsT l).length + (itemsT r).length < 549755813888)
    (hD : Dropped l (dropT l (f, id, to))) (hid : (a.id == id) = false) (hah : aheadB (f, id, to) (itN a) = true) :
    Calls Tryd.prog 55 #[.pointer (some ⟨b, 0, none⟩), .int .i64 id, .agg #[.int .i64 f, .int .i64 to]] w (DropPost (f, id, to) (.node b 0 a l r) w) := by
  obtain ⟨_, hb, hll, hrr⟩ := hin.parts
  obtain ⟨n1, n2, n3, n4, n5⟩ := sep_node hsep
  have hfin : dropT (.node b 0 a l r) (f, id, to) = levelT b a (dropT l (f, id, to)) r := dropT_pos hid hah
  obtain ⟨lp, el⟩ := ptr_some l
  obtain ⟨rp, er⟩ := ptr_some r
  rw [el, er] at hb
  rw [el] at ihl
  obtain ⟨L', hL'⟩ : ∃ L', L' = dropT l (f, id, to) := ⟨_, rfl⟩
  have ihl : ∀ w, treeIn w l → Calls Tryd.prog 55 #[.pointer lp, .int .i64 id, .agg #[.int .i64 f, .int .i64 to]] w fun e w' => e = .returned L'.ptr ∧ treeIn w' L' ∧ Fr (· ∈ blocksT l) w w' := by rw [hL']; exact ihl
  rw [← hL'] at hfin hD
  have HF := Lib.hid hfin
  have EL := Lib.hid el
  have ER := Lib.hid er
  have IHL := Lib.hid ihl
  have HAH := Lib.hid hah
  have HDD := Lib.hid hD
  have HINN := Lib.hid hin
  clear el er ihl hah hfin hL' hD hin
  have hbl := lt_of_block hb
  obtain ⟨d0, _, _, _, _, _, _⟩ := node_cells hb
  have HB := Lib.hid hb
  clear hb
  go_enter Tryd.func55, Tryd.ntmps55
  go_wp2_with fail
  refine (ahead_any id f to b a _ _ _ (block_alloc HB.out _)).mono ?_
  rintro e w1 ⟨rfl, B1⟩
  rw [HAH.out]
  have F1 : Fr (· ∈ blocksT (.node b 0 a l r)) w w1 := ((Fr.refl _ w).alloc _).next (Fr.new B1) (fun k _ e => e)
  have s1 : w.heap.size < w1.heap.size := by have := B1.size; simp at this; omega
  have hb1 : w1.heap[b]? = some (nodeO a (.pointer lp) (.pointer rp)) := (B1.block b (by simp; omega)).trans (block_alloc HB.out _)
  have T1 : treeIn w1 l := treeIn.frame (Fr.new (F := fun _ => False) (((Below.refl _ w).alloc (Nat.le_refl _) _).trans (B1.mono (by simp)))) hll (fun _ _ e => e)
  have U1 : treeIn w1 r := treeIn.frame (Fr.new (F := fun _ => False) (((Below.refl _ w).alloc (Nat.le_refl _) _).trans (B1.mono (by simp)))) hrr (fun _ _ e => e)
  have k1 : w1.cell? ⟨w.heap.size, 0, none⟩ = some (.int .i64 f) := (B1.cell (p := ⟨w.heap.size, 0, none⟩) (by simp)).trans (by simp)
  have k2 : w1.cell? ⟨w.heap.size, 1, none⟩ = some (.int .i64 to) := (B1.cell (p := ⟨w.heap.size, 1, none⟩) (by simp)).trans (by simp)
  obtain ⟨_, _, _, _, _, c5, _⟩ := node_cells hb1
  clear B1 hll hrr d0
  go_wp2_with fail
  go_region_with ((go_at_call 55; refine (IHL.out _ (by exact T1)).mono ?_; rintro e w3 ⟨rfl, T3, F3⟩; obtain ⟨u, hu⟩ := ptr_some L'; rw [hu]; have HU := Lib.hid hu; clear hu; have hb3 := F3.keeps (b := b) hb1 (fun h => n1 h); have f5 := node_free hb3 5; obtain ⟨_, _, _, _, _, c5', _⟩ := node_cells hb3))
  all_goals
    have F3' : Fr (· ∈ blocksT (.node b 0 a l r)) w w3 := F1.drew.next F3 (fun k _ e => List.mem_cons_of_mem _ (List.mem_append_left _ e))
    have U3 : treeIn w3 r := treeIn.frame F3 U1 (fun k hk e => n5 k e hk)
    have hnt : b ∉ blocksT L' := fun h => n1 (HDD.out.sub b h)
    have hnd : (blocksT (.node b 0 a L' r)).Nodup := by
      refine List.nodup_cons.2 ⟨fun h => ?_, List.nodup_append.2 ⟨HDD.out.sep, n4, fun y h1 z h2 e => n5 y (HDD.out.sub y h1) (by rw [e]; exact h2)⟩⟩
      rcases List.mem_append.1 h with h | h
      · exact hnt h
      · exact n2 h
    have FS : Fr (· = b) w3 (w3.setCell ⟨b, 5, none⟩ (.pointer u)) := Fr.setCell (F := (· = b)) (Fr.refl _ w3) (p := ⟨b, 5, none⟩) (fun _ => rfl) _
    have T4 := treeIn.frame FS T3 (fun k hk e => by subst e; exact hnt hk)
    have U4 := treeIn.frame FS U3 (fun k hk e => by subst e; exact n2 hk)
    have B4 := node_set5 hb3 (.pointer u)
    rw [← ER.out, ← HU.out] at B4
    rw [← HU.out] at T4 U4
    have F4 := F3'.next FS (fun k _ e => show k ∈ blocksT (.node b 0 a l r) from by simp [blocksT, e])
    rw [← HU.out] at F4
    clear FS T3 U3 hb3 c5' f5 F3 F3' T1 U1 hb1 k1 k2 c5
    go_wp2_with fail
    rw [← HU.out]
    refine (level_any b a L' r _ ⟨⟨rfl, B4⟩, T4, U4⟩ hnd HDD.out.fit hr (by have := HDD.out.len; omega)).mono ?_
    rintro e w5 ⟨rfl, T5, F5⟩
    have F6 := F4.next F5 (fun k hk e => by
      rcases List.mem_cons.1 e with e | e
      · simp [blocksT, e]
      · rcases List.mem_append.1 e with e | e
        · simp [blocksT, HDD.out.sub k e]
        · simp [blocksT, e])
    go_wp2_with fail
    go_ret
    exact ⟨by rw [HF.out]; rfl, by rw [HF.out]; exact T5, F6⟩
set_option maxRecDepth 100000 in
set_option maxHeartbeats 4000000 in
theorem drop_right (id f to : Int) (b : Nat) (a : Nd) (l r : BT Nd) (ihr : ∀ w, treeIn w r → Calls Tryd.prog 55 #[r.ptr, .int .i64 id, .agg #[.int .i64 f, .int .i64 to]] w (DropPost (f, id, to) r w))
    (w : World) (hin : treeIn w (.node b 0 a l r)) (hsep : (blocksT (.node b 0 a l r)).Nodup) (hl : FitT l) (_hr : FitT r) (hc : (itemsT l).length + (itemsT r).length < 549755813888)
    (hD : Dropped r (dropT r (f, id, to))) (hid : (a.id == id) = false) (hah : aheadB (f, id, to) (itN a) = false) :
    Calls Tryd.prog 55 #[.pointer (some ⟨b, 0, none⟩), .int .i64 id, .agg #[.int .i64 f, .int .i64 to]] w (DropPost (f, id, to) (.node b 0 a l r) w) := by
  obtain ⟨_, hb, hll, hrr⟩ := hin.parts
  obtain ⟨n1, n2, n3, n4, n5⟩ := sep_node hsep
  have hfin : dropT (.node b 0 a l r) (f, id, to) = levelT b a l (dropT r (f, id, to)) := dropT_neg hid hah
  obtain ⟨lp, el⟩ := ptr_some l
  obtain ⟨rp, er⟩ := ptr_some r
  rw [el, er] at hb
  rw [er] at ihr
  obtain ⟨L', hL'⟩ : ∃ L', L' = dropT r (f, id, to) := ⟨_, rfl⟩
  have ihr : ∀ w, treeIn w r → Calls Tryd.prog 55 #[.pointer rp, .int .i64 id, .agg #[.int .i64 f, .int .i64 to]] w fun e w' => e = .returned L'.ptr ∧ treeIn w' L' ∧ Fr (· ∈ blocksT r) w w' := by rw [hL']; exact ihr
  rw [← hL'] at hfin hD
  have HF := Lib.hid hfin
  have EL := Lib.hid el
  have ER := Lib.hid er
  have IHL := Lib.hid ihr
  have HAH := Lib.hid hah
  have HDD := Lib.hid hD
  have HINN := Lib.hid hin
  clear el er ihr hah hfin hL' hD hin
  have hbl := lt_of_block hb
  obtain ⟨d0, _, _, _, _, _, _⟩ := node_cells hb
  have HB := Lib.hid hb
  clear hb
  go_enter Tryd.func55, Tryd.ntmps55
  go_wp2_with fail
  refine (ahead_any id f to b a _ _ _ (block_alloc HB.out _)).mono ?_
  rintro e w1 ⟨rfl, B1⟩
  rw [HAH.out]
  have F1 : Fr (· ∈ blocksT (.node b 0 a l r)) w w1 := ((Fr.refl _ w).alloc _).next (Fr.new B1) (fun k _ e => e)
  have s1 : w.heap.size < w1.heap.size := by have := B1.size; simp at this; omega
  have hb1 : w1.heap[b]? = some (nodeO a (.pointer lp) (.pointer rp)) := (B1.block b (by simp; omega)).trans (block_alloc HB.out _)
  have T1 : treeIn w1 l := treeIn.frame (Fr.new (F := fun _ => False) (((Below.refl _ w).alloc (Nat.le_refl _) _).trans (B1.mono (by simp)))) hll (fun _ _ e => e)
  have U1 : treeIn w1 r := treeIn.frame (Fr.new (F := fun _ => False) (((Below.refl _ w).alloc (Nat.le_refl _) _).trans (B1.mono (by simp)))) hrr (fun _ _ e => e)
  have k1 : w1.cell? ⟨w.heap.size, 0, none⟩ = some (.int .i64 f) := (B1.cell (p := ⟨w.heap.size, 0, none⟩) (by simp)).trans (by simp)
  have k2 : w1.cell? ⟨w.heap.size, 1, none⟩ = some (.int .i64 to) := (B1.cell (p := ⟨w.heap.size, 1, none⟩) (by simp)).trans (by simp)
  obtain ⟨_, _, _, _, _, _, c5⟩ := node_cells hb1
  clear B1 hll hrr d0
  go_wp2_with fail
  go_region_with ((go_at_call 55; refine (IHL.out _ (by exact U1)).mono ?_; rintro e w3 ⟨rfl, T3, F3⟩; obtain ⟨u, hu⟩ := ptr_some L'; rw [hu]; have HU := Lib.hid hu; clear hu; have hb3 := F3.keeps (b := b) hb1 (fun h => n2 h); have f5 := node_free hb3 6; obtain ⟨_, _, _, _, _, _, c5'⟩ := node_cells hb3))
  all_goals
    have F3' : Fr (· ∈ blocksT (.node b 0 a l r)) w w3 := F1.drew.next F3 (fun k _ e => List.mem_cons_of_mem _ (List.mem_append_right _ e))
    have U3 : treeIn w3 l := treeIn.frame F3 T1 (fun k hk e => n5 k hk e)
    have hnt : b ∉ blocksT L' := fun h => n2 (HDD.out.sub b h)
    have hnd : (blocksT (.node b 0 a l L')).Nodup := by
      refine List.nodup_cons.2 ⟨fun h => ?_, List.nodup_append.2 ⟨n3, HDD.out.sep, fun y h1 z h2 e => n5 y h1 (by rw [e]; exact HDD.out.sub z h2)⟩⟩
      rcases List.mem_append.1 h with h | h
      · exact n1 h
      · exact hnt h
    have FS : Fr (· = b) w3 (w3.setCell ⟨b, 6, none⟩ (.pointer u)) := Fr.setCell (F := (· = b)) (Fr.refl _ w3) (p := ⟨b, 6, none⟩) (fun _ => rfl) _
    have T4 := treeIn.frame FS T3 (fun k hk e => by subst e; exact hnt hk)
    have U4 := treeIn.frame FS U3 (fun k hk e => by subst e; exact n1 hk)
    have B4 := node_set6 hb3 (.pointer u)
    rw [← EL.out, ← HU.out] at B4
    rw [← HU.out] at T4 U4
    have F4 := F3'.next FS (fun k _ e => show k ∈ blocksT (.node b 0 a l r) from by simp [blocksT, e])
    rw [← HU.out] at F4
    clear FS T3 U3 hb3 c5' f5 F3 F3' T1 U1 hb1 k1 k2 c5
    go_wp2_with fail
    rw [← HU.out]
    refine (level_any b a l L' _ ⟨⟨rfl, B4⟩, U4, T4⟩ hnd hl HDD.out.fit (by have := HDD.out.len; omega)).mono ?_
    rintro e w5 ⟨rfl, T5, F5⟩
    have F6 := F4.next F5 (fun k hk e => by
      rcases List.mem_cons.1 e with e | e
      · simp [blocksT, e]
      · rcases List.mem_append.1 e with e | e
        · simp [blocksT, e]
        · simp [blocksT, HDD.out.sub k e])
    go_wp2_with fail
    go_ret
    exact ⟨by rw [HF.out]; rfl, by rw [HF.out]; exact T5, F6⟩
end Go.Proofs.YtgbbldbkkmjedaaDoor
