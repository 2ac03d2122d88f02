/- A span of a number comes to a tree (add). -/
import Derived.Test.YtgbbldbkkmjedaaDoorTreeD
import Derived.Deep.RegionWith
namespace Go.Proofs.YtgbbldbkkmjedaaDoor
open Go.RowKit Go.Deep Go.Shelf Go.Sort

theorem add_blocks (nb : Nat) (x : It) : ∀ {t : BT Nd}, FitT t → (blocksT (addT nb x t)).Perm (nb :: blocksT t)
  | .nil, _ => .refl _
  | .node b o a l r, h => by
    unfold addT
    split
    · refine (level_blocks (add_fit nb x h.2.2.2.1) h.2.2.2.2).trans ?_
      refine (List.Perm.cons b ((add_blocks nb x h.2.2.2.1).append_right _)).trans ?_
      exact .swap nb b _
    · refine (level_blocks h.2.2.2.1 (add_fit nb x h.2.2.2.2)).trans ?_
      refine (List.Perm.cons b (List.Perm.append_left _ (add_blocks nb x h.2.2.2.2))).trans ?_
      refine (List.Perm.cons b List.perm_middle).trans ?_
      exact .swap nb b _
theorem add_length (nb : Nat) (x : It) {t : BT Nd} (h : FitT t) : (itemsT (addT nb x t)).length = (itemsT t).length + 1 := (add_perm nb x h).length_eq
theorem new_node (w : World) (x y : Obj) {z : Obj} (e : y = z) : ((w.alloc x).alloc y).heap[w.heap.size + 1]? = some z := by
  have h : (w.alloc x).heap.size = w.heap.size + 1 := by simp
  rw [← h, ← e]; exact block_alloc_new _ _
theorem addT_pos {nb b o : Nat} {x : It} {a : Nd} {l r : BT Nd} (h : aheadB x (itN a) = true) : addT nb x (.node b o a l r) = levelT b a (addT nb x l) r := by
  show (if aheadP x (itN a) then _ else _) = _
  rw [if_pos (by unfold aheadB at h; simpa using h)]
theorem addT_neg {nb b o : Nat} {x : It} {a : Nd} {l r : BT Nd} (h : aheadB x (itN a) = false) : addT nb x (.node b o a l r) = levelT b a l (addT nb x r) := by
  show (if aheadP x (itN a) then _ else _) = _
  rw [if_neg (by unfold aheadB at h; simpa using h)]
def AddPost (x : It) (t : BT Nd) (w : World) (e : Ending) (w' : World) : Prop := ∃ nb, w.heap.size ≤ nb ∧ e = .returned (addT nb x t).ptr ∧ treeIn w' (addT nb x t) ∧ Fr (· ∈ blocksT t) w w'

set_option maxRecDepth 100000 in
set_option maxHeartbeats 2000000 in
theorem add_nil (id f to : Int) (w : World) : Calls Tryd.prog 52 #[.pointer none, .int .i64 id, .agg #[.int .i64 f, .int .i64 to]] w (AddPost (f, id, to) .nil w) := by
  go_enter Tryd.func52, Tryd.ntmps52
  go_wp2_with fail
  refine (fit_any (w.heap.size + 1) ⟨id, f, to, 0, 0⟩ .nil .nil _ (new_node w _ _ rfl) trivial trivial (by simp [rootB]) (by simp [rootB]) (by decide) (by decide) (by decide) (by decide)).mono ?_
  rintro e w1 ⟨rfl, B1, F1⟩
  go_wp2_with fail
  go_ret
  refine ⟨w.heap.size + 1, by omega, rfl, ⟨⟨rfl, B1⟩, trivial, trivial⟩, ?_⟩
  exact (((Fr.refl (· ∈ blocksT .nil) w).alloc _).alloc _).next F1 (fun k hk e => by subst e; omega)

set_option maxRecDepth 100000 in
set_option maxHeartbeats 4000000 in
theorem add_left (id f to : Int) (b : Nat) (a : Nd) (l r : BT Nd) (ihl : ∀ w, treeIn w l → (blocksT l).Nodup → FitT l → (itemsT l).length < 549755813888 → Calls Tryd.prog 52 #[l.ptr, .int .i64 id, .agg #[.int .i64 f, .int .i64 to]] w (AddPost (f, id, to) l w))
    (w : World) (hin : treeIn w (.node b 0 a l r)) (hsep : (blocksT (.node b 0 a l r)).Nodup) (hl : FitT l) (hr : FitT r) (hc : (itemsT l).length + (itemsT r).length < 549755813888) (hah : aheadB (f, id, to) (itN a) = true) :
    Calls Tryd.prog 52 #[.pointer (some ⟨b, 0, none⟩), .int .i64 id, .agg #[.int .i64 f, .int .i64 to]] w (AddPost (f, id, to) (.node b 0 a l r) w) := by
  obtain ⟨_, hb, hll, hrr⟩ := hin.parts
  obtain ⟨n1, n2, n3, n4, n5⟩ := sep_node hsep
  obtain ⟨lp, el⟩ := ptr_some l
  obtain ⟨rp, er⟩ := ptr_some r
  rw [el, er] at hb
  rw [el] at ihl
  have EL := Lib.hid el
  have ER := Lib.hid er
  have IHL := Lib.hid ihl
  have HAH := Lib.hid hah
  clear el er ihl hah
  have hbl := lt_of_block hb
  go_enter Tryd.func52, Tryd.ntmps52
  go_wp2_with fail
  refine (ahead_any id f to b a _ _ _ (block_alloc hb _)).mono ?_
  rintro e w1 ⟨rfl, B1⟩
  rw [HAH.out]
  have F1 : Fr (· ∈ blocksT (.node b 0 a l r)) w w1 := ((Fr.refl _ w).alloc _).next (Fr.new B1) (fun k _ e => e)
  have s1 : w.heap.size < w1.heap.size := by have := B1.size; simp at this; omega
  have hb1 : w1.heap[b]? = some (nodeO a (.pointer lp) (.pointer rp)) := (B1.block b (by simp; omega)).trans (block_alloc hb _)
  have T1 : treeIn w1 l := treeIn.frame (Fr.new (F := fun _ => False) (((Below.refl _ w).alloc (Nat.le_refl _) _).trans (B1.mono (by simp)))) hll (fun _ _ e => e)
  have U1 : treeIn w1 r := treeIn.frame (Fr.new (F := fun _ => False) (((Below.refl _ w).alloc (Nat.le_refl _) _).trans (B1.mono (by simp)))) hrr (fun _ _ e => e)
  have k1 : w1.cell? ⟨w.heap.size, 0, none⟩ = some (.int .i64 f) := (B1.cell (p := ⟨w.heap.size, 0, none⟩) (by simp)).trans (by simp)
  have k2 : w1.cell? ⟨w.heap.size, 1, none⟩ = some (.int .i64 to) := (B1.cell (p := ⟨w.heap.size, 1, none⟩) (by simp)).trans (by simp)
  obtain ⟨_, _, _, _, _, c5, _⟩ := node_cells hb1
  clear B1 hb hll hrr
  go_wp2_with fail
  go_region_with ((go_at_call 52; refine (IHL.out _ (by exact T1) n3 hl (by omega)).mono ?_; rintro e w3 ⟨nb, hnb, rfl, T3, F3⟩; obtain ⟨u, hu⟩ := ptr_some (addT nb (f, id, to) l); rw [hu]; have HU := Lib.hid hu; clear hu; have hb3 := F3.keeps (b := b) hb1 (fun h => n1 h); have f5 := node_free hb3 5; obtain ⟨_, _, _, _, _, c5', _⟩ := node_cells hb3))
  all_goals
    have F3' : Fr (· ∈ blocksT (.node b 0 a l r)) w w3 := F1.drew.next F3 (fun k _ e => List.mem_cons_of_mem _ (List.mem_append_left _ e))
    have U3 : treeIn w3 r := treeIn.frame F3 U1 (fun k hk e => n5 k e hk)
    have hperm := add_blocks nb (f, id, to) hl
    have hs1 : w1.heap.size ≤ nb := hnb
    have hnt : b ∉ blocksT (addT nb (f, id, to) l) := fun h => by
      rcases List.mem_cons.1 (hperm.mem_iff.1 h) with h | h
      · omega
      · exact n1 h
    have hlt := U1.lt
    have hnd : (blocksT (.node b 0 a (addT nb (f, id, to) l) r)).Nodup := by
      refine List.nodup_cons.2 ⟨fun h => ?_, List.nodup_append.2 ⟨hperm.nodup_iff.2 (List.nodup_cons.2 ⟨fun h => ?_, n3⟩), n4, fun y h1 z h2 e => ?_⟩⟩
      · rcases List.mem_append.1 h with h | h
        · exact hnt h
        · exact n2 h
      · have := T1.lt nb h; omega
      · subst e
        rcases List.mem_cons.1 (hperm.mem_iff.1 h1) with h | h
        · subst h; have := hlt _ h2; omega
        · exact n5 y h h2
    have hlen := add_length nb (f, id, to) hl
    have hfit := add_fit nb (f, id, to) hl
    have HH := Lib.hid (And.intro hperm (And.intro hlen (And.intro hfit hnd)))
    have FS : Fr (· = b) w3 (w3.setCell ⟨b, 5, none⟩ (.pointer u)) := Fr.setCell (F := (· = b)) (Fr.refl _ w3) (p := ⟨b, 5, none⟩) (fun _ => rfl) _
    have T4 := treeIn.frame FS T3 (fun k hk e => by subst e; exact hnt hk)
    have U4 := treeIn.frame FS U3 (fun k hk e => by subst e; exact n2 hk)
    have B4 := node_set5 hb3 (.pointer u)
    rw [← ER.out, ← HU.out] at B4
    rw [← HU.out] at T4 U4
    have F4 := F3'.next FS (fun k _ e => show k ∈ blocksT (.node b 0 a l r) from by simp [blocksT, e])
    rw [← HU.out] at F4
    clear hperm hlen hfit hnd FS T3 U3 hb3 c5' f5 F3 F3' T1 U1 hb1 k1 k2 c5 hlt
    go_wp2_with fail
    rw [← HU.out]
    refine (level_any b a (addT nb (f, id, to) l) r _ ⟨⟨rfl, B4⟩, T4, U4⟩ HH.out.2.2.2 HH.out.2.2.1 hr (by rw [HH.out.2.1]; omega)).mono ?_
    rintro e w5 ⟨rfl, T5, F5⟩
    have hfin : addT nb (f, id, to) (.node b 0 a l r) = levelT b a (addT nb (f, id, to) l) r := addT_pos HAH.out
    have HF := Lib.hid hfin
    clear hfin
    have F6 := F4.next F5 (fun k hk e => by
      rcases List.mem_cons.1 e with e | e
      · simp [blocksT, e]
      · rcases List.mem_append.1 e with e | e
        · rcases List.mem_cons.1 (HH.out.1.mem_iff.1 e) with e | e
          · omega
          · simp [blocksT, e]
        · simp [blocksT, e])
    go_wp2_with fail
    go_ret
    exact ⟨nb, by omega, by rw [HF.out]; rfl, by rw [HF.out]; exact T5, F6⟩
set_option maxRecDepth 100000 in
set_option maxHeartbeats 4000000 in
theorem add_right (id f to : Int) (b : Nat) (a : Nd) (l r : BT Nd) (ihr : ∀ w, treeIn w r → (blocksT r).Nodup → FitT r → (itemsT r).length < 549755813888 → Calls Tryd.prog 52 #[r.ptr, .int .i64 id, .agg #[.int .i64 f, .int .i64 to]] w (AddPost (f, id, to) r w))
    (w : World) (hin : treeIn w (.node b 0 a l r)) (hsep : (blocksT (.node b 0 a l r)).Nodup) (hl : FitT l) (hr : FitT r) (hc : (itemsT l).length + (itemsT r).length < 549755813888) (hah : aheadB (f, id, to) (itN a) = false) :
    Calls Tryd.prog 52 #[.pointer (some ⟨b, 0, none⟩), .int .i64 id, .agg #[.int .i64 f, .int .i64 to]] w (AddPost (f, id, to) (.node b 0 a l r) w) := by
  obtain ⟨_, hb, hll, hrr⟩ := hin.parts
  obtain ⟨n1, n2, n3, n4, n5⟩ := sep_node hsep
  obtain ⟨lp, el⟩ := ptr_some l
  obtain ⟨rp, er⟩ := ptr_some r
  rw [el, er] at hb
  rw [er] at ihr
  have EL := Lib.hid el
  have ER := Lib.hid er
  have IHL := Lib.hid ihr
  have HAH := Lib.hid hah
  clear el er ihr hah
  have hbl := lt_of_block hb
  go_enter Tryd.func52, Tryd.ntmps52
  go_wp2_with fail
  refine (ahead_any id f to b a _ _ _ (block_alloc hb _)).mono ?_
  rintro e w1 ⟨rfl, B1⟩
  rw [HAH.out]
  have F1 : Fr (· ∈ blocksT (.node b 0 a l r)) w w1 := ((Fr.refl _ w).alloc _).next (Fr.new B1) (fun k _ e => e)
  have s1 : w.heap.size < w1.heap.size := by have := B1.size; simp at this; omega
  have hb1 : w1.heap[b]? = some (nodeO a (.pointer lp) (.pointer rp)) := (B1.block b (by simp; omega)).trans (block_alloc hb _)
  have T1 : treeIn w1 l := treeIn.frame (Fr.new (F := fun _ => False) (((Below.refl _ w).alloc (Nat.le_refl _) _).trans (B1.mono (by simp)))) hll (fun _ _ e => e)
  have U1 : treeIn w1 r := treeIn.frame (Fr.new (F := fun _ => False) (((Below.refl _ w).alloc (Nat.le_refl _) _).trans (B1.mono (by simp)))) hrr (fun _ _ e => e)
  have k1 : w1.cell? ⟨w.heap.size, 0, none⟩ = some (.int .i64 f) := (B1.cell (p := ⟨w.heap.size, 0, none⟩) (by simp)).trans (by simp)
  have k2 : w1.cell? ⟨w.heap.size, 1, none⟩ = some (.int .i64 to) := (B1.cell (p := ⟨w.heap.size, 1, none⟩) (by simp)).trans (by simp)
  obtain ⟨_, _, _, _, _, _, c5⟩ := node_cells hb1
  clear B1 hb hll hrr
  go_wp2_with fail
  go_region_with ((go_at_call 52; refine (IHL.out _ (by exact U1) n4 hr (by omega)).mono ?_; rintro e w3 ⟨nb, hnb, rfl, T3, F3⟩; obtain ⟨u, hu⟩ := ptr_some (addT nb (f, id, to) r); rw [hu]; have HU := Lib.hid hu; clear hu; have hb3 := F3.keeps (b := b) hb1 (fun h => n2 h); have f5 := node_free hb3 6; obtain ⟨_, _, _, _, _, _, c5'⟩ := node_cells hb3))
  all_goals
    have F3' : Fr (· ∈ blocksT (.node b 0 a l r)) w w3 := F1.drew.next F3 (fun k _ e => List.mem_cons_of_mem _ (List.mem_append_right _ e))
    have U3 : treeIn w3 l := treeIn.frame F3 T1 (fun k hk e => n5 k hk e)
    have hperm := add_blocks nb (f, id, to) hr
    have hs1 : w1.heap.size ≤ nb := hnb
    have hnt : b ∉ blocksT (addT nb (f, id, to) r) := fun h => by
      rcases List.mem_cons.1 (hperm.mem_iff.1 h) with h | h
      · omega
      · exact n2 h
    have hlt := T1.lt
    have hnd : (blocksT (.node b 0 a l (addT nb (f, id, to) r))).Nodup := by
      refine List.nodup_cons.2 ⟨fun h => ?_, List.nodup_append.2 ⟨n3, hperm.nodup_iff.2 (List.nodup_cons.2 ⟨fun h => ?_, n4⟩), fun y h1 z h2 e => ?_⟩⟩
      · rcases List.mem_append.1 h with h | h
        · exact n1 h
        · exact hnt h
      · have := U1.lt nb h; omega
      · subst e
        rcases List.mem_cons.1 (hperm.mem_iff.1 h2) with h | h
        · subst h; have := hlt _ h1; omega
        · exact n5 y h1 h
    have hlen := add_length nb (f, id, to) hr
    have hfit := add_fit nb (f, id, to) hr
    have HH := Lib.hid (And.intro hperm (And.intro hlen (And.intro hfit hnd)))
    have FS : Fr (· = b) w3 (w3.setCell ⟨b, 6, none⟩ (.pointer u)) := Fr.setCell (F := (· = b)) (Fr.refl _ w3) (p := ⟨b, 6, none⟩) (fun _ => rfl) _
    have T4 := treeIn.frame FS T3 (fun k hk e => by subst e; exact hnt hk)
    have U4 := treeIn.frame FS U3 (fun k hk e => by subst e; exact n1 hk)
    have B4 := node_set6 hb3 (.pointer u)
    rw [← EL.out, ← HU.out] at B4
    rw [← HU.out] at T4 U4
    have F4 := F3'.next FS (fun k _ e => show k ∈ blocksT (.node b 0 a l r) from by simp [blocksT, e])
    rw [← HU.out] at F4
    clear hperm hlen hfit hnd FS T3 U3 hb3 c5' f5 F3 F3' T1 U1 hb1 k1 k2 c5 hlt
    go_wp2_with fail
    rw [← HU.out]
    refine (level_any b a l (addT nb (f, id, to) r) _ ⟨⟨rfl, B4⟩, U4, T4⟩ HH.out.2.2.2 hl HH.out.2.2.1 (by rw [HH.out.2.1]; omega)).mono ?_
    rintro e w5 ⟨rfl, T5, F5⟩
    have hfin : addT nb (f, id, to) (.node b 0 a l r) = levelT b a l (addT nb (f, id, to) r) := addT_neg HAH.out
    have HF := Lib.hid hfin
    clear hfin
    have F6 := F4.next F5 (fun k hk e => by
      rcases List.mem_cons.1 e with e | e
      · simp [blocksT, e]
      · rcases List.mem_append.1 e with e | e
        · simp [blocksT, e]
        · rcases List.mem_cons.1 (HH.out.1.mem_iff.1 e) with e | e
          · omega
          · simp [blocksT, e])
    go_wp2_with fail
    go_ret
    exact ⟨nb, by omega, by rw [HF.out]; rfl, by rw [HF.out]; exact T5, F6⟩

theorem add_any (id f to : Int) : ∀ (t : BT Nd) (w : World), treeIn w t → (blocksT t).Nodup → FitT t → (itemsT t).length < 549755813888 →
    Calls Tryd.prog 52 #[t.ptr, .int .i64 id, .agg #[.int .i64 f, .int .i64 to]] w (AddPost (f, id, to) t w)
  | .nil, w, _, _, _, _ => add_nil id f to w
  | .node b o a l r, w, hin, hsep, hf, hc => by
    obtain rfl : o = 0 := hf.1
    have hlen : (itemsT (.node b 0 a l r)).length = (itemsT l).length + 1 + (itemsT r).length := by simp [itemsT]; omega
    show Calls Tryd.prog 52 #[.pointer (some ⟨b, 0, none⟩), .int .i64 id, .agg #[.int .i64 f, .int .i64 to]] w _
    cases h : aheadB (f, id, to) (itN a)
    · exact add_right id f to b a l r (fun w h1 h2 h3 h4 => add_any id f to r w h1 h2 h3 h4) w hin hsep hf.2.2.2.1 hf.2.2.2.2 (by omega) h
    · exact add_left id f to b a l r (fun w h1 h2 h3 h4 => add_any id f to l w h1 h2 h3 h4) w hin hsep hf.2.2.2.1 hf.2.2.2.2 (by omega) h
end Go.Proofs.YtgbbldbkkmjedaaDoor
