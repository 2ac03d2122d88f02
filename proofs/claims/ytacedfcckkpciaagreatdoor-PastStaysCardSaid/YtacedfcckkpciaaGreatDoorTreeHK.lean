/- The span of a number goes from a tree: the node that holds it has two sides (drop). -/
import Derived.Deep.RegionWith
import Derived.Deep.LoopGhost
import Derived.Test.YtacedfcckkpciaaGreatDoorTreeLK
import Derived.Test.YtacedfcckkpciaaGreatDoorOrK
namespace Go.Proofs.YtacedfcckkpciaaGreatDoor
open Go.RowKit Go.Deep Go.Shelf Go.Sort

def aheadB (x y : It) : Bool := decide (aheadP x y)
theorem ahead_cmp (x y : It) : decide (orI [Lib.compareInt x.1 y.1, Lib.compareInt x.2.1 y.2.1] < 0) = aheadB x y := by
  unfold aheadB aheadP orI Lib.compareInt
  by_cases h1 : x.1 < y.1 <;> by_cases h2 : y.1 < x.1 <;> by_cases h3 : x.2.1 < y.2.1 <;> by_cases h4 : y.2.1 < x.2.1 <;> simp [h1, h2, h3, h4] <;> omega

set_option maxRecDepth 100000 in
set_option maxHeartbeats 1000000 in
theorem ahead_any (id f t : Int) (b : Nat) (a : Nd) (l r : Value) (w : World) (hb : w.heap[b]? = some (nodeO a l r)) :
    Calls Tryz.prog 108 #[.agg #[.int .i64 f, .int .i64 t], .int .i64 id, .pointer (some ⟨b, 0, none⟩)] w fun e w' => e = .returned (.bool (aheadB (f, id, t) (itN a))) ∧ Below w.heap.size w w' := by
  obtain ⟨r1, h1⟩ : ∃ r, r = Lib.compareInt f a.f := ⟨_, rfl⟩
  obtain ⟨r2, h2⟩ : ∃ r, r = Lib.compareInt id a.id := ⟨_, rfl⟩
  have hr : decide (orI [r1, r2] < 0) = aheadB (f, id, t) (itN a) := by rw [h1, h2]; exact ahead_cmp (f, id, t) (itN a)
  have HR := Lib.hid hr
  have c1 := fun w => Tryz.cmp_Compare_int f a.f w
  have c2 := fun w => Tryz.cmp_Compare_int id a.id w
  rw [← h1] at c1
  rw [← h2] at c2
  clear hr h1 h2
  have C1 := Lib.hid c1
  have C2 := Lib.hid c2
  clear c1 c2
  obtain ⟨W, hW⟩ : ∃ W, W = w.alloc (.cells #[.int .i64 f, .int .i64 t] 44) := ⟨_, rfl⟩
  have hBW : Below w.heap.size w W := by rw [hW]; exact (Below.refl _ _).alloc (Nat.le_refl _) _
  have k1 : W.cell? ⟨w.heap.size, 0, none⟩ = some (.int .i64 f) := by rw [hW]; simp
  have hbl := lt_of_block hb
  have hb1 : W.heap[b]? = some (nodeO a l r) := (hBW.block b hbl).trans hb
  obtain ⟨d0, d1, _, _, _, _, _⟩ := node_cells hb1
  have hsW : W.heap.size = w.heap.size + 1 := by rw [hW]; simp
  have hlt : w.heap.size < W.heap.size := by omega
  have hlt1 : b < W.heap.size := by omega
  have HW := Lib.hid hW
  have q1 : ∀ o, (W.alloc o).cell? ⟨w.heap.size, 0, none⟩ = some (.int .i64 f) := fun o => by rw [World.cell?_alloc_past _ _ _ hlt]; exact k1
  have q2 : ∀ o, (W.alloc o).cell? ⟨b, 0, none⟩ = some (.int .i64 a.id) := fun o => by rw [World.cell?_alloc_past _ _ _ hlt1]; exact d0
  have q3 : ∀ o, (W.alloc o).cell? ⟨b, 1, none⟩ = some (.int .i64 a.f) := fun o => by rw [World.cell?_alloc_past _ _ _ hlt1]; exact d1
  have Q1 := Lib.hid q1
  have Q2 := Lib.hid q2
  have Q3 := Lib.hid q3
  clear hW hsW q1 q2 q3 hb hb1
  go_enter Tryz.func108, Tryz.ntmps108
  go_wp2
  rw [← HW.out]
  go_region_held3 (fun w' => w'.cell? ⟨w.heap.size, 0, none⟩ = some (.int .i64 f) ∧ w'.cell? ⟨b, 0, none⟩ = some (.int .i64 a.id) ∧ w'.cell? ⟨b, 1, none⟩ = some (.int .i64 a.f) ∧ Below w.heap.size w w')
    (first | exact ⟨k1, d0, d1, hBW.drew⟩ | assumption | exact ⟨Q1.out _, Q2.out _, Q3.out _, (hBW.alloc (by omega) _).drew⟩)
    (first
      | (go_at_call 166; first | ((with_reducible refine (C1.out _).mono ?_); rintro e w' ⟨rfl, rfl⟩) | ((with_reducible refine (C2.out _).mono ?_); rintro e w' ⟨rfl, rfl⟩))
      | (go_at_call 165; refine (or_any [r1, r2] _ 2 (W.alloc (.cells #[.int .i64 r1, .int .i64 r2] 3)).drew (show intsAt (W.alloc (.cells #[.int .i64 r1, .int .i64 r2] 3)) _ _ from ints2 W r1 r2) (by simp [maxLen])).mono ?_; rintro e w' ⟨rfl, rfl⟩))
  go_wp2
  go_ret
  exact ⟨by rw [← HR.out]; rfl, (hBW.alloc (by omega) _).drew⟩
end Go.Proofs.YtacedfcckkpciaaGreatDoor

namespace Go.Proofs.YtacedfcckkpciaaGreatDoor
open Go.RowKit Go.Deep Go.Shelf Go.Sort

theorem add_blocks (nb : Nat) (x : It) : ∀ {t : BT Nd}, FitT t → (blocksT (addT nb x t)).Perm (nb :: blocksT t)
  | .nil, _ => .refl _
  | .node b o a l r, h => by
    unfold addT
    split
    · refine (level_blocks (add_fit nb x h.2.2.2.1) h.2.2.2.2).trans ?_
      refine (List.Perm.cons b ((add_blocks nb x h.2.2.2.1).append_right _)).trans ?_
      exact .swap nb b _
    · refine (level_blocks h.2.2.2.1 (add_fit nb x h.2.2.2.2)).trans ?_
      refine (List.Perm.cons b (List.Perm.append_left _ (add_blocks nb x h.2.2.2.2))).trans ?_
      refine (List.Perm.cons b List.perm_middle).trans ?_
      exact .swap nb b _
theorem add_length (nb : Nat) (x : It) {t : BT Nd} (h : FitT t) : (itemsT (addT nb x t)).length = (itemsT t).length + 1 := (add_perm nb x h).length_eq
theorem new_node (w : World) (x y : Obj) {z : Obj} (e : y = z) : ((w.alloc x).alloc y).heap[w.heap.size + 1]? = some z := by
  have h : (w.alloc x).heap.size = w.heap.size + 1 := by simp
  rw [← h, ← e]; exact block_alloc_new _ _
theorem addT_pos {nb b o : Nat} {x : It} {a : Nd} {l r : BT Nd} (h : aheadB x (itN a) = true) : addT nb x (.node b o a l r) = levelT b a (addT nb x l) r := by
  show (if aheadP x (itN a) then _ else _) = _
  rw [if_pos (by unfold aheadB at h; simpa using h)]
theorem addT_neg {nb b o : Nat} {x : It} {a : Nd} {l r : BT Nd} (h : aheadB x (itN a) = false) : addT nb x (.node b o a l r) = levelT b a l (addT nb x r) := by
  show (if aheadP x (itN a) then _ else _) = _
  rw [if_neg (by unfold aheadB at h; simpa using h)]
def AddPost (x : It) (t : BT Nd) (w : World) (e : Ending) (w' : World) : Prop := ∃ nb, w.heap.size ≤ nb ∧ e = .returned (addT nb x t).ptr ∧ treeIn w' (addT nb x t) ∧ Fr (· ∈ blocksT t) w w'

set_option maxRecDepth 100000 in
set_option maxHeartbeats 2000000 in
theorem add_nil (id f to : Int) (w : World) : Calls Tryz.prog 138 #[.pointer none, .int .i64 id, .agg #[.int .i64 f, .int .i64 to]] w (AddPost (f, id, to) .nil w) := by
  go_enter Tryz.func138, Tryz.ntmps138
  go_wp2_with fail
  refine (fit_any (w.heap.size + 1) ⟨id, f, to, 0, 0⟩ .nil .nil _ (new_node w _ _ rfl) trivial trivial (by simp [rootB]) (by simp [rootB]) (by decide) (by decide) (by decide) (by decide)).mono ?_
  rintro e w1 ⟨rfl, B1, F1⟩
  go_wp2_with fail
  go_ret
  refine ⟨w.heap.size + 1, by omega, rfl, ⟨⟨rfl, B1⟩, trivial, trivial⟩, ?_⟩
  exact (((Fr.refl (· ∈ blocksT .nil) w).alloc _).alloc _).next F1 (fun k hk e => by subst e; omega)

set_option maxRecDepth 100000 in
set_option maxHeartbeats 4000000 in
theorem add_left (id f to : Int) (b : Nat) (a : Nd) (l r : BT Nd) (ihl : ∀ w, treeIn w l → (blocksT l).Nodup → FitT l → (itemsT l).length < 549755813888 → Calls Tryz.prog 138 #[l.ptr, .int .i64 id, .agg #[.int .i64 f, .int .i64 to]] w (AddPost (f, id, to) l w))
    (w : World) (hin : treeIn w (.node b 0 a l r)) (hsep : (blocksT (.node b 0 a l r)).Nodup) (hl : FitT l) (hr : FitT r) (hc : (itemsT l).length + (itemsT r).length < 549755813888) (hah : aheadB (f, id, to) (itN a) = true) :
    Calls Tryz.prog 138 #[.pointer (some ⟨b, 0, none⟩), .int .i64 id, .agg #[.int .i64 f, .int .i64 to]] w (AddPost (f, id, to) (.node b 0 a l r) w) := by
  obtain ⟨_, hb, hll, hrr⟩ := hin.parts
  obtain ⟨n1, n2, n3, n4, n5⟩ := sep_node hsep
  obtain ⟨lp, el⟩ := ptr_some l
  obtain ⟨rp, er⟩ := ptr_some r
  rw [el, er] at hb
  rw [el] at ihl
  have EL := Lib.hid el
  have ER := Lib.hid er
  have IHL := Lib.hid ihl
  have HAH := Lib.hid hah
  clear el er ihl hah
  have hbl := lt_of_block hb
  go_enter Tryz.func138, Tryz.ntmps138
  go_wp2_with fail
  refine (ahead_any id f to b a _ _ _ (block_alloc hb _)).mono ?_
  rintro e w1 ⟨rfl, B1⟩
  rw [HAH.out]
  have F1 : Fr (· ∈ blocksT (.node b 0 a l r)) w w1 := ((Fr.refl _ w).alloc _).next (Fr.new B1) (fun k _ e => e)
  have s1 : w.heap.size < w1.heap.size := by have := B1.size; simp at this; omega
  have hb1 : w1.heap[b]? = some (nodeO a (.pointer lp) (.pointer rp)) := (B1.block b (by simp; omega)).trans (block_alloc hb _)
  have T1 : treeIn w1 l := treeIn.frame (Fr.new (F := fun _ => False) (((Below.refl _ w).alloc (Nat.le_refl _) _).trans (B1.mono (by simp)))) hll (fun _ _ e => e)
  have U1 : treeIn w1 r := treeIn.frame (Fr.new (F := fun _ => False) (((Below.refl _ w).alloc (Nat.le_refl _) _).trans (B1.mono (by simp)))) hrr (fun _ _ e => e)
  have k1 : w1.cell? ⟨w.heap.size, 0, none⟩ = some (.int .i64 f) := (B1.cell (p := ⟨w.heap.size, 0, none⟩) (by simp)).trans (by simp)
  have k2 : w1.cell? ⟨w.heap.size, 1, none⟩ = some (.int .i64 to) := (B1.cell (p := ⟨w.heap.size, 1, none⟩) (by simp)).trans (by simp)
  obtain ⟨_, _, _, _, _, c5, _⟩ := node_cells hb1
  clear B1 hb hll hrr
  go_wp2_with fail
  go_region_with ((go_at_call 138; refine (IHL.out _ (by exact T1) n3 hl (by omega)).mono ?_; rintro e w3 ⟨nb, hnb, rfl, T3, F3⟩; obtain ⟨u, hu⟩ := ptr_some (addT nb (f, id, to) l); rw [hu]; have HU := Lib.hid hu; clear hu; have hb3 := F3.keeps (b := b) hb1 (fun h => n1 h); have f5 := node_free hb3 5; obtain ⟨_, _, _, _, _, c5', _⟩ := node_cells hb3))
  all_goals
    have F3' : Fr (· ∈ blocksT (.node b 0 a l r)) w w3 := F1.drew.next F3 (fun k _ e => List.mem_cons_of_mem _ (List.mem_append_left _ e))
    have U3 : treeIn w3 r := treeIn.frame F3 U1 (fun k hk e => n5 k e hk)
    have hperm := add_blocks nb (f, id, to) hl
    have hs1 : w1.heap.size ≤ nb := hnb
    have hnt : b ∉ blocksT (addT nb (f, id, to) l) := fun h => by
      rcases List.mem_cons.1 (hperm.mem_iff.1 h) with h | h
      · omega
      · exact n1 h
    have hlt := U1.lt
    have hnd : (blocksT (.node b 0 a (addT nb (f, id, to) l) r)).Nodup := by
      refine List.nodup_cons.2 ⟨fun h => ?_, List.nodup_append.2 ⟨hperm.nodup_iff.2 (List.nodup_cons.2 ⟨fun h => ?_, n3⟩), n4, fun y h1 z h2 e => ?_⟩⟩
      · rcases List.mem_append.1 h with h | h
        · exact hnt h
        · exact n2 h
      · have := T1.lt nb h; omega
      · subst e
        rcases List.mem_cons.1 (hperm.mem_iff.1 h1) with h | h
        · subst h; have := hlt _ h2; omega
        · exact n5 y h h2
    have hlen := add_length nb (f, id, to) hl
    have hfit := add_fit nb (f, id, to) hl
    have HH := Lib.hid (And.intro hperm (And.intro hlen (And.intro hfit hnd)))
    have FS : Fr (· = b) w3 (w3.setCell ⟨b, 5, none⟩ (.pointer u)) := Fr.setCell (F := (· = b)) (Fr.refl _ w3) (p := ⟨b, 5, none⟩) (fun _ => rfl) _
    have T4 := treeIn.frame FS T3 (fun k hk e => by subst e; exact hnt hk)
    have U4 := treeIn.frame FS U3 (fun k hk e => by subst e; exact n2 hk)
    have B4 := node_set5 hb3 (.pointer u)
    rw [← ER.out, ← HU.out] at B4
    rw [← HU.out] at T4 U4
    have F4 := F3'.next FS (fun k _ e => show k ∈ blocksT (.node b 0 a l r) from by simp [blocksT, e])
    rw [← HU.out] at F4
    clear hperm hlen hfit hnd FS T3 U3 hb3 c5' f5 F3 F3' T1 U1 hb1 k1 k2 c5 hlt
    go_wp2_with fail
    rw [← HU.out]
    refine (level_any b a (addT nb (f, id, to) l) r _ ⟨⟨rfl, B4⟩, T4, U4⟩ HH.out.2.2.2 HH.out.2.2.1 hr (by rw [HH.out.2.1]; omega)).mono ?_
    rintro e w5 ⟨rfl, T5, F5⟩
    have hfin : addT nb (f, id, to) (.node b 0 a l r) = levelT b a (addT nb (f, id, to) l) r := addT_pos HAH.out
    have HF := Lib.hid hfin
    clear hfin
    have F6 := F4.next F5 (fun k hk e => by
      rcases List.mem_cons.1 e with e | e
      · simp [blocksT, e]
      · rcases List.mem_append.1 e with e | e
        · rcases List.mem_cons.1 (HH.out.1.mem_iff.1 e) with e | e
          · omega
          · simp [blocksT, e]
        · simp [blocksT, e])
    go_wp2_with fail
    go_ret
    exact ⟨nb, by omega, by rw [HF.out]; rfl, by rw [HF.out]; exact T5, F6⟩
set_option maxRecDepth 100000 in
set_option maxHeartbeats 4000000 in
theorem add_right (id f to : Int) (b : Nat) (a : Nd) (l r : BT Nd) (ihr : ∀ w, treeIn w r → (blocksT r).Nodup → FitT r → (itemsT r).length < 549755813888 → Calls Tryz.prog 138 #[r.ptr, .int .i64 id, .agg #[.int .i64 f, .int .i64 to]] w (AddPost (f, id, to) r w))
    (w : World) (hin : treeIn w (.node b 0 a l r)) (hsep : (blocksT (.node b 0 a l r)).Nodup) (hl : FitT l) (hr : FitT r) (hc : (itemsT l).length + (itemsT r).length < 549755813888) (hah : aheadB (f, id, to) (itN a) = false) :
    Calls Tryz.prog 138 #[.pointer (some ⟨b, 0, none⟩), .int .i64 id, .agg #[.int .i64 f, .int .i64 to]] w (AddPost (f, id, to) (.node b 0 a l r) w) := by
  obtain ⟨_, hb, hll, hrr⟩ := hin.parts
  obtain ⟨n1, n2, n3, n4, n5⟩ := sep_node hsep
  obtain ⟨lp, el⟩ := ptr_some l
  obtain ⟨rp, er⟩ := ptr_some r
  rw [el, er] at hb
  rw [er] at ihr
  have EL := Lib.hid el
  have ER := Lib.hid er
  have IHL := Lib.hid ihr
  have HAH := Lib.hid hah
  clear el er ihr hah
  have hbl := lt_of_block hb
  go_enter Tryz.func138, Tryz.ntmps138
  go_wp2_with fail
  refine (ahead_any id f to b a _ _ _ (block_alloc hb _)).mono ?_
  rintro e w1 ⟨rfl, B1⟩
  rw [HAH.out]
  have F1 : Fr (· ∈ blocksT (.node b 0 a l r)) w w1 := ((Fr.refl _ w).alloc _).next (Fr.new B1) (fun k _ e => e)
  have s1 : w.heap.size < w1.heap.size := by have := B1.size; simp at this; omega
  have hb1 : w1.heap[b]? = some (nodeO a (.pointer lp) (.pointer rp)) := (B1.block b (by simp; omega)).trans (block_alloc hb _)
  have T1 : treeIn w1 l := treeIn.frame (Fr.new (F := fun _ => False) (((Below.refl _ w).alloc (Nat.le_refl _) _).trans (B1.mono (by simp)))) hll (fun _ _ e => e)
  have U1 : treeIn w1 r := treeIn.frame (Fr.new (F := fun _ => False) (((Below.refl _ w).alloc (Nat.le_refl _) _).trans (B1.mono (by simp)))) hrr (fun _ _ e => e)
  have k1 : w1.cell? ⟨w.heap.size, 0, none⟩ = some (.int .i64 f) := (B1.cell (p := ⟨w.heap.size, 0, none⟩) (by simp)).trans (by simp)
  have k2 : w1.cell? ⟨w.heap.size, 1, none⟩ = some (.int .i64 to) := (B1.cell (p := ⟨w.heap.size, 1, none⟩) (by simp)).trans (by simp)
  obtain ⟨_, _, _, _, _, _, c5⟩ := node_cells hb1
  clear B1 hb hll hrr
  go_wp2_with fail
  go_region_with ((go_at_call 138; refine (IHL.out _ (by exact U1) n4 hr (by omega)).mono ?_; rintro e w3 ⟨nb, hnb, rfl, T3, F3⟩; obtain ⟨u, hu⟩ := ptr_some (addT nb (f, id, to) r); rw [hu]; have HU := Lib.hid hu; clear hu; have hb3 := F3.keeps (b := b) hb1 (fun h => n2 h); have f5 := node_free hb3 6; obtain ⟨_, _, _, _, _, _, c5'⟩ := node_cells hb3))
  all_goals
    have F3' : Fr (· ∈ blocksT (.node b 0 a l r)) w w3 := F1.drew.next F3 (fun k _ e => List.mem_cons_of_mem _ (List.mem_append_right _ e))
    have U3 : treeIn w3 l := treeIn.frame F3 T1 (fun k hk e => n5 k hk e)
    have hperm := add_blocks nb (f, id, to) hr
    have hs1 : w1.heap.size ≤ nb := hnb
    have hnt : b ∉ blocksT (addT nb (f, id, to) r) := fun h => by
      rcases List.mem_cons.1 (hperm.mem_iff.1 h) with h | h
      · omega
      · exact n2 h
    have hlt := T1.lt
    have hnd : (blocksT (.node b 0 a l (addT nb (f, id, to) r))).Nodup := by
      refine List.nodup_cons.2 ⟨fun h => ?_, List.nodup_append.2 ⟨n3, hperm.nodup_iff.2 (List.nodup_cons.2 ⟨fun h => ?_, n4⟩), fun y h1 z h2 e => ?_⟩⟩
      · rcases List.mem_append.1 h with h | h
        · exact n1 h
        · exact hnt h
      · have := U1.lt nb h; omega
      · subst e
        rcases List.mem_cons.1 (hperm.mem_iff.1 h2) with h | h
        · subst h; have := hlt _ h1; omega
        · exact n5 y h1 h
    have hlen := add_length nb (f, id, to) hr
    have hfit := add_fit nb (f, id, to) hr
    have HH := Lib.hid (And.intro hperm (And.intro hlen (And.intro hfit hnd)))
    have FS : Fr (· = b) w3 (w3.setCell ⟨b, 6, none⟩ (.pointer u)) := Fr.setCell (F := (· = b)) (Fr.refl _ w3) (p := ⟨b, 6, none⟩) (fun _ => rfl) _
    have T4 := treeIn.frame FS T3 (fun k hk e => by subst e; exact hnt hk)
    have U4 := treeIn.frame FS U3 (fun k hk e => by subst e; exact n1 hk)
    have B4 := node_set6 hb3 (.pointer u)
    rw [← EL.out, ← HU.out] at B4
    rw [← HU.out] at T4 U4
    have F4 := F3'.next FS (fun k _ e => show k ∈ blocksT (.node b 0 a l r) from by simp [blocksT, e])
    rw [← HU.out] at F4
    clear hperm hlen hfit hnd FS T3 U3 hb3 c5' f5 F3 F3' T1 U1 hb1 k1 k2 c5 hlt
    go_wp2_with fail
    rw [← HU.out]
    refine (level_any b a l (addT nb (f, id, to) r) _ ⟨⟨rfl, B4⟩, U4, T4⟩ HH.out.2.2.2 hl HH.out.2.2.1 (by rw [HH.out.2.1]; omega)).mono ?_
    rintro e w5 ⟨rfl, T5, F5⟩
    have hfin : addT nb (f, id, to) (.node b 0 a l r) = levelT b a l (addT nb (f, id, to) r) := addT_neg HAH.out
    have HF := Lib.hid hfin
    clear hfin
    have F6 := F4.next F5 (fun k hk e => by
      rcases List.mem_cons.1 e with e | e
      · simp [blocksT, e]
      · rcases List.mem_append.1 e with e | e
        · simp [blocksT, e]
        · rcases List.mem_cons.1 (HH.out.1.mem_iff.1 e) with e | e
          · omega
          · simp [blocksT, e])
    go_wp2_with fail
    go_ret
    exact ⟨nb, by omega, by rw [HF.out]; rfl, by rw [HF.out]; exact T5, F6⟩

theorem add_any (id f to : Int) : ∀ (t : BT Nd) (w : World), treeIn w t → (blocksT t).Nodup → FitT t → (itemsT t).length < 549755813888 →
    Calls Tryz.prog 138 #[t.ptr, .int .i64 id, .agg #[.int .i64 f, .int .i64 to]] w (AddPost (f, id, to) t w)
  | .nil, w, _, _, _, _ => add_nil id f to w
  | .node b o a l r, w, hin, hsep, hf, hc => by
    obtain rfl : o = 0 := hf.1
    have hlen : (itemsT (.node b 0 a l r)).length = (itemsT l).length + 1 + (itemsT r).length := by simp [itemsT]; omega
    show Calls Tryz.prog 138 #[.pointer (some ⟨b, 0, none⟩), .int .i64 id, .agg #[.int .i64 f, .int .i64 to]] w _
    cases h : aheadB (f, id, to) (itN a)
    · exact add_right id f to b a l r (fun w h1 h2 h3 h4 => add_any id f to r w h1 h2 h3 h4) w hin hsep hf.2.2.2.1 hf.2.2.2.2 (by omega) h
    · exact add_left id f to b a l r (fun w h1 h2 h3 h4 => add_any id f to l w h1 h2 h3 h4) w hin hsep hf.2.2.2.1 hf.2.2.2.2 (by omega) h
end Go.Proofs.YtacedfcckkpciaaGreatDoor

namespace Go.Proofs.YtacedfcckkpciaaGreatDoor
open Go.RowKit Go.Deep Go.Shelf Go.Sort

theorem drop_blocks : ∀ {t : BT Nd} (x : It), FitT t → SrtT (itemsT t) → ((itemsT t).map (·.2.1)).Nodup → x ∈ itemsT t → (blocksT t).Nodup →
    (blocksT (dropT t x)).Nodup ∧ ∀ k ∈ blocksT (dropT t x), k ∈ blocksT t
  | .nil, _, _, _, _, h, _ => by cases h
  | .node b o a l r, x, h, hs, hu, hm, hd => by
    obtain ⟨s1, s2, s3, s4⟩ := srt_parts hs
    obtain ⟨u1, u2⟩ := nodup_parts hu
    obtain ⟨n1, n2, n3, n4, n5⟩ := sep_node hd
    have hma : itN a ∈ itemsT (.node b o a l r) := by simp [itemsT]
    have hspec := drop_spec x h hs hu hm
    unfold dropT
    by_cases hid : a.id = x.2.1
    · rw [if_pos hid]
      by_cases hl : isNil l = true
      · rw [if_pos hl]; exact ⟨n4, fun k hk => by simp [blocksT, hk]⟩
      · rw [if_neg hl]
        by_cases hr : isNil r = true
        · rw [if_pos hr]; exact ⟨n3, fun k hk => by simp [blocksT, hk]⟩
        · rw [if_neg hr]
          have hrn : r ≠ .nil := fun e => hr (isNil_iff.2 e)
          obtain ⟨rest, hrest⟩ := first_spec x hrn
          have hmr : firstT x r ∈ itemsT r := by rw [hrest]; simp
          obtain ⟨d1, d2, d3⟩ := drop_spec (firstT x r) h.2.2.2.2 s2 u2 hmr
          obtain ⟨e1, e2⟩ := drop_blocks (firstT x r) h.2.2.2.2 s2 u2 hmr n4
          have hp := level_blocks (b := b) (a := ⟨(firstT x r).2.1, (firstT x r).1, (firstT x r).2.2, a.last, a.high⟩) h.2.2.2.1 d1
          refine ⟨hp.nodup_iff.2 (List.nodup_cons.2 ⟨?_, List.nodup_append.2 ⟨n3, e1, fun y h1 z h2 e => n5 y h1 (by rw [e]; exact e2 z h2)⟩⟩), fun k hk => ?_⟩
          · rw [List.mem_append]; rintro (h1 | h1); exact n1 h1; exact n2 (e2 _ h1)
          · rcases List.mem_cons.1 (hp.mem_iff.1 hk) with h1 | h1
            · simp [blocksT, h1]
            · rcases List.mem_append.1 h1 with h1 | h1
              · simp [blocksT, h1]
              · simp [blocksT, e2 k h1]
    · rw [if_neg hid]
      by_cases hc : aheadP x (itN a)
      · rw [if_pos hc]
        have hml : x ∈ itemsT l := by
          rcases List.mem_append.1 (show x ∈ itemsT l ++ itN a :: itemsT r from hm) with h1 | h1
          · exact h1
          · rcases List.mem_cons.1 h1 with h2 | h2
            · rw [h2] at hid; exact absurd rfl hid
            · exact absurd (ahead_trans hc (s4 x h2)) (ahead_irrefl x)
        obtain ⟨d1, d2, d3⟩ := drop_spec x h.2.2.2.1 s1 u1 hml
        obtain ⟨e1, e2⟩ := drop_blocks x h.2.2.2.1 s1 u1 hml n3
        have hp := level_blocks (b := b) (a := a) d1 h.2.2.2.2
        refine ⟨hp.nodup_iff.2 (List.nodup_cons.2 ⟨?_, List.nodup_append.2 ⟨e1, n4, fun y h1 z h2 e => n5 y (e2 y h1) (by rw [e]; exact h2)⟩⟩), fun k hk => ?_⟩
        · rw [List.mem_append]; rintro (h1 | h1); exact n1 (e2 _ h1); exact n2 h1
        · rcases List.mem_cons.1 (hp.mem_iff.1 hk) with h1 | h1
          · simp [blocksT, h1]
          · rcases List.mem_append.1 h1 with h1 | h1
            · simp [blocksT, e2 k h1]
            · simp [blocksT, h1]
      · rw [if_neg hc]
        have hmr : x ∈ itemsT r := by
          rcases List.mem_append.1 (show x ∈ itemsT l ++ itN a :: itemsT r from hm) with h1 | h1
          · exact absurd (s3 x h1) hc
          · rcases List.mem_cons.1 h1 with h2 | h2
            · rw [h2] at hid; exact absurd rfl hid
            · exact h2
        obtain ⟨d1, d2, d3⟩ := drop_spec x h.2.2.2.2 s2 u2 hmr
        obtain ⟨e1, e2⟩ := drop_blocks x h.2.2.2.2 s2 u2 hmr n4
        have hp := level_blocks (b := b) (a := a) h.2.2.2.1 d1
        refine ⟨hp.nodup_iff.2 (List.nodup_cons.2 ⟨?_, List.nodup_append.2 ⟨n3, e1, fun y h1 z h2 e => n5 y h1 (by rw [e]; exact e2 z h2)⟩⟩), fun k hk => ?_⟩
        · rw [List.mem_append]; rintro (h1 | h1); exact n1 h1; exact n2 (e2 _ h1)
        · rcases List.mem_cons.1 (hp.mem_iff.1 hk) with h1 | h1
          · simp [blocksT, h1]
          · rcases List.mem_append.1 h1 with h1 | h1
            · simp [blocksT, h1]
            · simp [blocksT, e2 k h1]

def DropPost (x : It) (t : BT Nd) (w : World) (e : Ending) (w' : World) : Prop := e = .returned (dropT t x).ptr ∧ treeIn w' (dropT t x) ∧ Fr (· ∈ blocksT t) w w'
theorem dropT_pos {b o : Nat} {x : It} {a : Nd} {l r : BT Nd} (hid : (a.id == x.2.1) = false) (h : aheadB x (itN a) = true) : dropT (.node b o a l r) x = levelT b a (dropT l x) r := by
  show (if a.id = x.2.1 then _ else if aheadP x (itN a) then _ else _) = _
  rw [if_neg (by simpa using hid), if_pos (by unfold aheadB at h; simpa using h)]
theorem dropT_neg {b o : Nat} {x : It} {a : Nd} {l r : BT Nd} (hid : (a.id == x.2.1) = false) (h : aheadB x (itN a) = false) : dropT (.node b o a l r) x = levelT b a l (dropT r x) := by
  show (if a.id = x.2.1 then _ else if aheadP x (itN a) then _ else _) = _
  rw [if_neg (by simpa using hid), if_neg (by unfold aheadB at h; simpa using h)]
theorem dropT_lnil {b o : Nat} {x : It} {a : Nd} {r : BT Nd} (hid : (a.id == x.2.1) = true) : dropT (.node b o a .nil r) x = r := by
  show (if a.id = x.2.1 then _ else if aheadP x (itN a) then _ else _) = _
  rw [if_pos (by simpa using hid)]; rfl
theorem dropT_rnil {b o : Nat} {x : It} {a : Nd} {l : BT Nd} (hid : (a.id == x.2.1) = true) (hl : l ≠ .nil) : dropT (.node b o a l .nil) x = l := by
  show (if a.id = x.2.1 then _ else if aheadP x (itN a) then _ else _) = _
  rw [if_pos (by simpa using hid), if_neg (by rw [isNil_iff]; exact hl)]; rfl
theorem dropT_mid {b o : Nat} {x : It} {a : Nd} {l r : BT Nd} (hid : (a.id == x.2.1) = true) (hl : l ≠ .nil) (hr : r ≠ .nil) : dropT (.node b o a l r) x = levelT b ⟨(firstT x r).2.1, (firstT x r).1, (firstT x r).2.2, a.last, a.high⟩ l (dropT r (firstT x r)) := by
  show (if a.id = x.2.1 then _ else if aheadP x (itN a) then _ else _) = _
  rw [if_pos (by simpa using hid), if_neg (by rw [isNil_iff]; exact hl), if_neg (by rw [isNil_iff]; exact hr)]
theorem ptr_ne {t : BT Nd} (h : t ≠ .nil) : ∃ a, t.ptr = .pointer (some a) := by cases t; exact absurd rfl h; exact ⟨_, rfl⟩

set_option maxRecDepth 100000 in
set_option maxHeartbeats 4000000 in
theorem drop_lnil (id f to : Int) (b : Nat) (a : Nd) (r : BT Nd) (w : World) (hin : treeIn w (.node b 0 a .nil r)) (hid : (a.id == id) = true) :
    Calls Tryz.prog 74 #[.pointer (some ⟨b, 0, none⟩), .int .i64 id, .agg #[.int .i64 f, .int .i64 to]] w (DropPost (f, id, to) (.node b 0 a .nil r) w) := by
  obtain ⟨_, hb, _, hrr⟩ := hin.parts
  obtain ⟨rp, er⟩ := ptr_some r
  rw [er] at hb
  have hbn : w.heap[b]? = some (nodeO a (.pointer none) (.pointer rp)) := hb
  obtain ⟨c0, _, _, _, _, c5, c6⟩ := node_cells hbn
  have hbl := lt_of_block hb
  have ER := Lib.hid er
  have HB := Lib.hid hbn
  clear er hb hbn
  go_enter Tryz.func74, Tryz.ntmps74
  go_wp2_with fail
  go_ret
  refine ⟨by rw [dropT_lnil hid, ER.out]; rfl, by rw [dropT_lnil hid]; exact treeIn.frame (F := fun _ => False) (Fr.alloc (Fr.refl _ w) _) hrr (fun _ _ e => e), Fr.alloc (Fr.refl _ w) _⟩
set_option maxRecDepth 100000 in
set_option maxHeartbeats 4000000 in
theorem drop_rnil (id f to : Int) (b : Nat) (a : Nd) (l : BT Nd) (w : World) (hin : treeIn w (.node b 0 a l .nil)) (hl : l ≠ .nil) (hid : (a.id == id) = true) :
    Calls Tryz.prog 74 #[.pointer (some ⟨b, 0, none⟩), .int .i64 id, .agg #[.int .i64 f, .int .i64 to]] w (DropPost (f, id, to) (.node b 0 a l .nil) w) := by
  obtain ⟨_, hb, hll, _⟩ := hin.parts
  obtain ⟨lp, el⟩ := ptr_ne hl
  rw [el] at hb
  have hbn : w.heap[b]? = some (nodeO a (.pointer (some lp)) (.pointer none)) := hb
  obtain ⟨c0, _, _, _, _, c5, c6⟩ := node_cells hbn
  have hbl := lt_of_block hb
  have EL := Lib.hid el
  have HB := Lib.hid hbn
  clear el hb hbn
  go_enter Tryz.func74, Tryz.ntmps74
  go_wp2_with fail
  go_ret
  refine ⟨by rw [dropT_rnil hid hl, EL.out]; rfl, by rw [dropT_rnil hid hl]; exact treeIn.frame (F := fun _ => False) (Fr.alloc (Fr.refl _ w) _) hll (fun _ _ e => e), Fr.alloc (Fr.refl _ w) _⟩
end Go.Proofs.YtacedfcckkpciaaGreatDoor

namespace Go.Proofs.YtacedfcckkpciaaGreatDoor
open Go.RowKit Go.Deep Go.Shelf Go.Sort

/-- What drop asks of a tree. -/
structure DropOk (t : BT Nd) (x : It) : Prop where
  sep : (blocksT t).Nodup
  fit : FitT t
  srt : SrtT (itemsT t)
  ids : ((itemsT t).map (·.2.1)).Nodup
  mem : x ∈ itemsT t
  len : (itemsT t).length < 549755813888
structure Dropped (t t' : BT Nd) : Prop where
  sep : (blocksT t').Nodup
  sub : ∀ k ∈ blocksT t', k ∈ blocksT t
  fit : FitT t'
  len : (itemsT t').length ≤ (itemsT t).length
theorem DropOk.out {t : BT Nd} {x : It} (h : DropOk t x) : Dropped t (dropT t x) := by
  obtain ⟨d1, d2, d3⟩ := drop_spec x h.fit h.srt h.ids h.mem
  obtain ⟨e1, e2⟩ := drop_blocks x h.fit h.srt h.ids h.mem h.sep
  exact ⟨e1, e2, d1, by have := d3.length_eq; simp at this; omega⟩

set_option maxRecDepth 100000 in
set_option maxHeartbeats 4000000 in
theorem drop_left (id f to : Int) (b : Nat) (a : Nd) (l r : BT Nd) (ihl : ∀ w, treeIn w l → Calls Tryz.prog 74 #[l.ptr, .int .i64 id, .agg #[.int .i64 f, .int .i64 to]] w (DropPost (f, id, to) l w))
    (w : World) (hin : treeIn w (.node b 0 a l r)) (hsep : (blocksT (.node b 0 a l r)).Nodup) (_hl : FitT l) (hr : FitT r) (hc : (itemsT l).length + (itemsT r).length < 549755813888)
    (hD : Dropped l (dropT l (f, id, to))) (hid : (a.id == id) = false) (hah : aheadB (f, id, to) (itN a) = true) :
    Calls Tryz.prog 74 #[.pointer (some ⟨b, 0, none⟩), .int .i64 id, .agg #[.int .i64 f, .int .i64 to]] w (DropPost (f, id, to) (.node b 0 a l r) w) := by
  obtain ⟨_, hb, hll, hrr⟩ := hin.parts
  obtain ⟨n1, n2, n3, n4, n5⟩ := sep_node hsep
  have hfin : dropT (.node b 0 a l r) (f, id, to) = levelT b a (dropT l (f, id, to)) r := dropT_pos hid hah
  obtain ⟨lp, el⟩ := ptr_some l
  obtain ⟨rp, er⟩ := ptr_some r
  rw [el, er] at hb
  rw [el] at ihl
  obtain ⟨L', hL'⟩ : ∃ L', L' = dropT l (f, id, to) := ⟨_, rfl⟩
  have ihl : ∀ w, treeIn w l → Calls Tryz.prog 74 #[.pointer lp, .int .i64 id, .agg #[.int .i64 f, .int .i64 to]] w fun e w' => e = .returned L'.ptr ∧ treeIn w' L' ∧ Fr (· ∈ blocksT l) w w' := by rw [hL']; exact ihl
  rw [← hL'] at hfin hD
  have HF := Lib.hid hfin
  have EL := Lib.hid el
  have ER := Lib.hid er
  have IHL := Lib.hid ihl
  have HAH := Lib.hid hah
  have HDD := Lib.hid hD
  have HINN := Lib.hid hin
  clear el er ihl hah hfin hL' hD hin
  have hbl := lt_of_block hb
  obtain ⟨d0, _, _, _, _, _, _⟩ := node_cells hb
  have HB := Lib.hid hb
  clear hb
  go_enter Tryz.func74, Tryz.ntmps74
  go_wp2_with fail
  refine (ahead_any id f to b a _ _ _ (block_alloc HB.out _)).mono ?_
  rintro e w1 ⟨rfl, B1⟩
  rw [HAH.out]
  have F1 : Fr (· ∈ blocksT (.node b 0 a l r)) w w1 := ((Fr.refl _ w).alloc _).next (Fr.new B1) (fun k _ e => e)
  have s1 : w.heap.size < w1.heap.size := by have := B1.size; simp at this; omega
  have hb1 : w1.heap[b]? = some (nodeO a (.pointer lp) (.pointer rp)) := (B1.block b (by simp; omega)).trans (block_alloc HB.out _)
  have T1 : treeIn w1 l := treeIn.frame (Fr.new (F := fun _ => False) (((Below.refl _ w).alloc (Nat.le_refl _) _).trans (B1.mono (by simp)))) hll (fun _ _ e => e)
  have U1 : treeIn w1 r := treeIn.frame (Fr.new (F := fun _ => False) (((Below.refl _ w).alloc (Nat.le_refl _) _).trans (B1.mono (by simp)))) hrr (fun _ _ e => e)
  have k1 : w1.cell? ⟨w.heap.size, 0, none⟩ = some (.int .i64 f) := (B1.cell (p := ⟨w.heap.size, 0, none⟩) (by simp)).trans (by simp)
  have k2 : w1.cell? ⟨w.heap.size, 1, none⟩ = some (.int .i64 to) := (B1.cell (p := ⟨w.heap.size, 1, none⟩) (by simp)).trans (by simp)
  obtain ⟨_, _, _, _, _, c5, _⟩ := node_cells hb1
  clear B1 hll hrr d0
  go_wp2_with fail
  go_region_with ((go_at_call 74; refine (IHL.out _ (by exact T1)).mono ?_; rintro e w3 ⟨rfl, T3, F3⟩; obtain ⟨u, hu⟩ := ptr_some L'; rw [hu]; have HU := Lib.hid hu; clear hu; have hb3 := F3.keeps (b := b) hb1 (fun h => n1 h); have f5 := node_free hb3 5; obtain ⟨_, _, _, _, _, c5', _⟩ := node_cells hb3))
  all_goals
    have F3' : Fr (· ∈ blocksT (.node b 0 a l r)) w w3 := F1.drew.next F3 (fun k _ e => List.mem_cons_of_mem _ (List.mem_append_left _ e))
    have U3 : treeIn w3 r := treeIn.frame F3 U1 (fun k hk e => n5 k e hk)
    have hnt : b ∉ blocksT L' := fun h => n1 (HDD.out.sub b h)
    have hnd : (blocksT (.node b 0 a L' r)).Nodup := by
      refine List.nodup_cons.2 ⟨fun h => ?_, List.nodup_append.2 ⟨HDD.out.sep, n4, fun y h1 z h2 e => n5 y (HDD.out.sub y h1) (by rw [e]; exact h2)⟩⟩
      rcases List.mem_append.1 h with h | h
      · exact hnt h
      · exact n2 h
    have FS : Fr (· = b) w3 (w3.setCell ⟨b, 5, none⟩ (.pointer u)) := Fr.setCell (F := (· = b)) (Fr.refl _ w3) (p := ⟨b, 5, none⟩) (fun _ => rfl) _
    have T4 := treeIn.frame FS T3 (fun k hk e => by subst e; exact hnt hk)
    have U4 := treeIn.frame FS U3 (fun k hk e => by subst e; exact n2 hk)
    have B4 := node_set5 hb3 (.pointer u)
    rw [← ER.out, ← HU.out] at B4
    rw [← HU.out] at T4 U4
    have F4 := F3'.next FS (fun k _ e => show k ∈ blocksT (.node b 0 a l r) from by simp [blocksT, e])
    rw [← HU.out] at F4
    clear FS T3 U3 hb3 c5' f5 F3 F3' T1 U1 hb1 k1 k2 c5
    go_wp2_with fail
    rw [← HU.out]
    refine (level_any b a L' r _ ⟨⟨rfl, B4⟩, T4, U4⟩ hnd HDD.out.fit hr (by have := HDD.out.len; omega)).mono ?_
    rintro e w5 ⟨rfl, T5, F5⟩
    have F6 := F4.next F5 (fun k hk e => by
      rcases List.mem_cons.1 e with e | e
      · simp [blocksT, e]
      · rcases List.mem_append.1 e with e | e
        · simp [blocksT, HDD.out.sub k e]
        · simp [blocksT, e])
    go_wp2_with fail
    go_ret
    exact ⟨by rw [HF.out]; rfl, by rw [HF.out]; exact T5, F6⟩
set_option maxRecDepth 100000 in
set_option maxHeartbeats 4000000 in
theorem drop_right (id f to : Int) (b : Nat) (a : Nd) (l r : BT Nd) (ihr : ∀ w, treeIn w r → Calls Tryz.prog 74 #[r.ptr, .int .i64 id, .agg #[.int .i64 f, .int .i64 to]] w (DropPost (f, id, to) r w))
    (w : World) (hin : treeIn w (.node b 0 a l r)) (hsep : (blocksT (.node b 0 a l r)).Nodup) (hl : FitT l) (_hr : FitT r) (hc : (itemsT l).length + (itemsT r).length < 549755813888)
    (hD : Dropped r (dropT r (f, id, to))) (hid : (a.id == id) = false) (hah : aheadB (f, id, to) (itN a) = false) :
    Calls Tryz.prog 74 #[.pointer (some ⟨b, 0, none⟩), .int .i64 id, .agg #[.int .i64 f, .int .i64 to]] w (DropPost (f, id, to) (.node b 0 a l r) w) := by
  obtain ⟨_, hb, hll, hrr⟩ := hin.parts
  obtain ⟨n1, n2, n3, n4, n5⟩ := sep_node hsep
  have hfin : dropT (.node b 0 a l r) (f, id, to) = levelT b a l (dropT r (f, id, to)) := dropT_neg hid hah
  obtain ⟨lp, el⟩ := ptr_some l
  obtain ⟨rp, er⟩ := ptr_some r
  rw [el, er] at hb
  rw [er] at ihr
  obtain ⟨L', hL'⟩ : ∃ L', L' = dropT r (f, id, to) := ⟨_, rfl⟩
  have ihr : ∀ w, treeIn w r → Calls Tryz.prog 74 #[.pointer rp, .int .i64 id, .agg #[.int .i64 f, .int .i64 to]] w fun e w' => e = .returned L'.ptr ∧ treeIn w' L' ∧ Fr (· ∈ blocksT r) w w' := by rw [hL']; exact ihr
  rw [← hL'] at hfin hD
  have HF := Lib.hid hfin
  have EL := Lib.hid el
  have ER := Lib.hid er
  have IHL := Lib.hid ihr
  have HAH := Lib.hid hah
  have HDD := Lib.hid hD
  have HINN := Lib.hid hin
  clear el er ihr hah hfin hL' hD hin
  have hbl := lt_of_block hb
  obtain ⟨d0, _, _, _, _, _, _⟩ := node_cells hb
  have HB := Lib.hid hb
  clear hb
  go_enter Tryz.func74, Tryz.ntmps74
  go_wp2_with fail
  refine (ahead_any id f to b a _ _ _ (block_alloc HB.out _)).mono ?_
  rintro e w1 ⟨rfl, B1⟩
  rw [HAH.out]
  have F1 : Fr (· ∈ blocksT (.node b 0 a l r)) w w1 := ((Fr.refl _ w).alloc _).next (Fr.new B1) (fun k _ e => e)
  have s1 : w.heap.size < w1.heap.size := by have := B1.size; simp at this; omega
  have hb1 : w1.heap[b]? = some (nodeO a (.pointer lp) (.pointer rp)) := (B1.block b (by simp; omega)).trans (block_alloc HB.out _)
  have T1 : treeIn w1 l := treeIn.frame (Fr.new (F := fun _ => False) (((Below.refl _ w).alloc (Nat.le_refl _) _).trans (B1.mono (by simp)))) hll (fun _ _ e => e)
  have U1 : treeIn w1 r := treeIn.frame (Fr.new (F := fun _ => False) (((Below.refl _ w).alloc (Nat.le_refl _) _).trans (B1.mono (by simp)))) hrr (fun _ _ e => e)
  have k1 : w1.cell? ⟨w.heap.size, 0, none⟩ = some (.int .i64 f) := (B1.cell (p := ⟨w.heap.size, 0, none⟩) (by simp)).trans (by simp)
  have k2 : w1.cell? ⟨w.heap.size, 1, none⟩ = some (.int .i64 to) := (B1.cell (p := ⟨w.heap.size, 1, none⟩) (by simp)).trans (by simp)
  obtain ⟨_, _, _, _, _, _, c5⟩ := node_cells hb1
  clear B1 hll hrr d0
  go_wp2_with fail
  go_region_with ((go_at_call 74; refine (IHL.out _ (by exact U1)).mono ?_; rintro e w3 ⟨rfl, T3, F3⟩; obtain ⟨u, hu⟩ := ptr_some L'; rw [hu]; have HU := Lib.hid hu; clear hu; have hb3 := F3.keeps (b := b) hb1 (fun h => n2 h); have f5 := node_free hb3 6; obtain ⟨_, _, _, _, _, _, c5'⟩ := node_cells hb3))
  all_goals
    have F3' : Fr (· ∈ blocksT (.node b 0 a l r)) w w3 := F1.drew.next F3 (fun k _ e => List.mem_cons_of_mem _ (List.mem_append_right _ e))
    have U3 : treeIn w3 l := treeIn.frame F3 T1 (fun k hk e => n5 k hk e)
    have hnt : b ∉ blocksT L' := fun h => n2 (HDD.out.sub b h)
    have hnd : (blocksT (.node b 0 a l L')).Nodup := by
      refine List.nodup_cons.2 ⟨fun h => ?_, List.nodup_append.2 ⟨n3, HDD.out.sep, fun y h1 z h2 e => n5 y h1 (by rw [e]; exact HDD.out.sub z h2)⟩⟩
      rcases List.mem_append.1 h with h | h
      · exact n1 h
      · exact hnt h
    have FS : Fr (· = b) w3 (w3.setCell ⟨b, 6, none⟩ (.pointer u)) := Fr.setCell (F := (· = b)) (Fr.refl _ w3) (p := ⟨b, 6, none⟩) (fun _ => rfl) _
    have T4 := treeIn.frame FS T3 (fun k hk e => by subst e; exact hnt hk)
    have U4 := treeIn.frame FS U3 (fun k hk e => by subst e; exact n1 hk)
    have B4 := node_set6 hb3 (.pointer u)
    rw [← EL.out, ← HU.out] at B4
    rw [← HU.out] at T4 U4
    have F4 := F3'.next FS (fun k _ e => show k ∈ blocksT (.node b 0 a l r) from by simp [blocksT, e])
    rw [← HU.out] at F4
    clear FS T3 U3 hb3 c5' f5 F3 F3' T1 U1 hb1 k1 k2 c5
    go_wp2_with fail
    rw [← HU.out]
    refine (level_any b a l L' _ ⟨⟨rfl, B4⟩, U4, T4⟩ hnd hl HDD.out.fit (by have := HDD.out.len; omega)).mono ?_
    rintro e w5 ⟨rfl, T5, F5⟩
    have F6 := F4.next F5 (fun k hk e => by
      rcases List.mem_cons.1 e with e | e
      · simp [blocksT, e]
      · rcases List.mem_append.1 e with e | e
        · simp [blocksT, e]
        · simp [blocksT, HDD.out.sub k e])
    go_wp2_with fail
    go_ret
    exact ⟨by rw [HF.out]; rfl, by rw [HF.out]; exact T5, F6⟩
end Go.Proofs.YtacedfcckkpciaaGreatDoor

namespace Go.Proofs.YtacedfcckkpciaaGreatDoor
open Go.RowKit Go.Deep Go.Shelf Go.Sort

def leftLen : BT Nd → Nat
  | .nil => 0
  | .node _ _ _ l _ => leftLen l + 1
/-- A node on the way to the first one. -/
def OnWay (w : World) (r : BT Nd) (x : It) (k : Nat) (p : Value) : Prop :=
  ∃ (fb : Nat) (fa : Nd) (fl fr : BT Nd), p = .pointer (some ⟨fb, 0, none⟩) ∧ treeIn w (.node fb 0 fa fl fr) ∧ firstT x r = firstT (itN fa) fl ∧ leftLen fl ≤ k ∧ ∀ k ∈ blocksT (.node fb 0 fa fl fr), k ∈ blocksT r

theorem S_far {W : World} {b fb : Nat} {fa : Nd} (hbf : b ≠ fb) (h : W.cell? ⟨fb, 0, none⟩ = some (.int .i64 fa.id) ∧ W.cell? ⟨fb, 1, none⟩ = some (.int .i64 fa.f) ∧ W.cell? ⟨fb, 2, none⟩ = some (.int .i64 fa.t)) (i : Nat) (v : Value) :
    (W.setCell ⟨b, i, none⟩ v).cell? ⟨fb, 0, none⟩ = some (.int .i64 fa.id) ∧ (W.setCell ⟨b, i, none⟩ v).cell? ⟨fb, 1, none⟩ = some (.int .i64 fa.f) ∧ (W.setCell ⟨b, i, none⟩ v).cell? ⟨fb, 2, none⟩ = some (.int .i64 fa.t) := by
  have e : ∀ j, (W.setCell ⟨b, i, none⟩ v).cell? ⟨fb, j, none⟩ = W.cell? ⟨fb, j, none⟩ := fun j => World.cell?_setCell_far _ _ _ _ hbf
  exact ⟨(e 0).trans h.1, (e 1).trans h.2.1, (e 2).trans h.2.2⟩
structure MidW (w : World) (b : Nat) (a : Nd) (lp rp : Addr) (l r : BT Nd) (W : World) : Prop where
  hb : W.heap[b]? = some (nodeO a (.pointer (some lp)) (.pointer (some rp)))
  tl : treeIn W l
  tr : treeIn W r
  fr : Fr (· ∈ blocksT (.node b 0 a l r)) w W
theorem node_set0 {w : World} {b : Nat} {a : Nd} {l r : Value} (h : w.heap[b]? = some (nodeO a l r)) (v : Int) : (w.setCell ⟨b, 0, none⟩ (.int .i64 v)).heap[b]? = some (nodeO { a with id := v } l r) := block_set h 0 _
theorem node_set1 {w : World} {b : Nat} {a : Nd} {l r : Value} (h : w.heap[b]? = some (nodeO a l r)) (v : Int) : (w.setCell ⟨b, 1, none⟩ (.int .i64 v)).heap[b]? = some (nodeO { a with f := v } l r) := block_set h 1 _
theorem node_set2 {w : World} {b : Nat} {a : Nd} {l r : Value} (h : w.heap[b]? = some (nodeO a l r)) (v : Int) : (w.setCell ⟨b, 2, none⟩ (.int .i64 v)).heap[b]? = some (nodeO { a with t := v } l r) := block_set h 2 _

set_option maxRecDepth 100000 in
set_option maxHeartbeats 8000000 in
theorem drop_mid (id f to : Int) (b : Nat) (a : Nd) (l r : BT Nd) (ihr : ∀ (y : It) w, treeIn w r → DropOk r y → Calls Tryz.prog 74 #[r.ptr, .int .i64 y.2.1, .agg #[.int .i64 y.1, .int .i64 y.2.2]] w (DropPost y r w))
    (w : World) (hin : treeIn w (.node b 0 a l r)) (hsep : (blocksT (.node b 0 a l r)).Nodup) (hl : FitT l) (hr : FitT r) (hc : (itemsT l).length + (itemsT r).length < 549755813888)
    (hnl : l ≠ .nil) (hnr : r ≠ .nil) (hD : DropOk r (firstT (f, id, to) r)) (hid : (a.id == id) = true) :
    Calls Tryz.prog 74 #[.pointer (some ⟨b, 0, none⟩), .int .i64 id, .agg #[.int .i64 f, .int .i64 to]] w (DropPost (f, id, to) (.node b 0 a l r) w) := by
  obtain ⟨_, hb, hll, hrr⟩ := hin.parts
  obtain ⟨n1, n2, n3, n4, n5⟩ := sep_node hsep
  have hfin := dropT_mid (b := b) (o := 0) (x := (f, id, to)) hid hnl hnr
  obtain ⟨lp, el⟩ := ptr_ne hnl
  obtain ⟨rp, er⟩ := ptr_ne hnr
  rw [el, er] at hb
  rw [er] at ihr
  have HF := Lib.hid hfin
  have EL := Lib.hid el
  have ER := Lib.hid er
  have IHR := Lib.hid ihr
  have HDD := Lib.hid hD
  have HINN := Lib.hid hin
  clear el er ihr hfin hD hin
  have hbl := lt_of_block hb
  obtain ⟨d0, _, _, _, _, d5, d6⟩ := node_cells hb
  have HB := Lib.hid hb
  clear hb
  have hw0 : OnWay (w.alloc (.cells #[.int .i64 f, .int .i64 to] 44)) r (f, id, to) (leftLen r) (.pointer (some rp)) := by
    cases r with
    | nil => exact absurd rfl hnr
    | node rb ro ra rl rr =>
      have h0 : ro = 0 := hr.1
      subst h0
      have e := ER.out
      cases e
      exact ⟨rb, ra, rl, rr, rfl, treeIn.frame (F := fun _ => False) (Fr.alloc (Fr.refl _ w) _) hrr (fun _ _ e => e), rfl, by simp [leftLen], fun k hk => hk⟩
  go_enter Tryz.func74, Tryz.ntmps74
  go_wp2_with fail
  have hM : MidW w b a lp rp l r (w.alloc (.cells #[.int .i64 f, .int .i64 to] 44)) :=
    ⟨block_alloc HB.out _, treeIn.frame (F := fun _ => False) (Fr.alloc (Fr.refl _ w) _) hll (fun _ _ e => e), treeIn.frame (F := fun _ => False) (Fr.alloc (Fr.refl _ w) _) hrr (fun _ _ e => e), Fr.alloc (Fr.refl _ w) _⟩
  go_loopg [7] (leftLen r) (fun k p wr => OnWay wr r (f, id, to) k p ∧ MidW w b a lp rp l r wr)
  case atStart => exact ⟨hw0, hM⟩
  case round =>
    obtain ⟨hway, hM1⟩ := hrel
    obtain ⟨fb, fa, fl, fr, rfl, hfi, hfe, hk, hfb⟩ := hway
    obtain ⟨_, hfh, hfl, hfr⟩ := hfi.parts
    have HFE := Lib.hid hfe
    have HFI := Lib.hid hfi
    have HM1 := Lib.hid hM1
    clear hfe hfi hM1 hw0 hM
    cases fl with
    | node xb xo xa xl xr =>
      have h0 : xo = 0 := hfl.parts.1
      subst h0
      have hfh' : wr.heap[fb]? = some (nodeO fa (.pointer (some ⟨xb, 0, none⟩)) fr.ptr) := hfh
      obtain ⟨_, _, _, _, _, g5, _⟩ := node_cells hfh'
      clear hfh hfh'
      go_wp2_with fail
      go_roundg (leftLen xl)
      case measure => simp [leftLen] at hk; omega
      case rel => exact ⟨⟨xb, xa, xl, xr, rfl, hfl, HFE.out, Nat.le_refl _, fun k hk => hfb k (by simp only [blocksT, List.mem_cons, List.mem_append] at hk ⊢; exact Or.inr (Or.inl hk))⟩, HM1.out⟩
    | nil =>
      have hfh' : wr.heap[fb]? = some (nodeO fa (.pointer none) fr.ptr) := hfh
      obtain ⟨g0, g1, g2, _, _, g5, _⟩ := node_cells hfh'
      have hbf : b ≠ fb := fun e => n2 (by rw [e]; exact hfb fb (by simp [blocksT]))
      have hb1 := HM1.out.hb
      obtain ⟨d0', d1', d2', _, _, d5', d6'⟩ := node_cells hb1
      have f0 := node_free hb1 0
      have f1 := node_free hb1 1
      have f2 := node_free hb1 2
      have HB1 := Lib.hid hb1
      have HFH := Lib.hid hfh'
      clear hfh hfh' hb1 d0 d5 d6
      go_wp2_with fail
      go_region_held3 (fun W => W.cell? ⟨fb, 0, none⟩ = some (.int .i64 fa.id) ∧ W.cell? ⟨fb, 1, none⟩ = some (.int .i64 fa.f) ∧ W.cell? ⟨fb, 2, none⟩ = some (.int .i64 fa.t))
        (first | exact ⟨g0, g1, g2⟩ | exact S_far (W := wr) hbf ⟨g0, g1, g2⟩ 0 _ | exact S_far hbf (S_far hbf (S_far (W := wr) hbf ⟨g0, g1, g2⟩ 0 _) 1 _) 2 _) (fail)
      obtain ⟨W2, hW2⟩ : ∃ W2, W2 = (((wr.setCell ⟨b, 0, none⟩ (.int .i64 fa.id)).setCell ⟨b, 1, none⟩ (.int .i64 fa.f)).setCell ⟨b, 2, none⟩ (.int .i64 fa.t)).drew := ⟨_, rfl⟩
      rw [← hW2]
      have FS : Fr (· = b) wr W2 := by
        rw [hW2]
        exact Fr.drew (Fr.setCell (F := (· = b)) (Fr.setCell (F := (· = b)) (Fr.setCell (F := (· = b)) (Fr.refl _ wr) (p := ⟨b, 0, none⟩) (fun _ => rfl) _) (p := ⟨b, 1, none⟩) (fun _ => rfl) _) (p := ⟨b, 2, none⟩) (fun _ => rfl) _)
      have B2 : W2.heap[b]? = some (nodeO ⟨fa.id, fa.f, fa.t, a.last, a.high⟩ (.pointer (some lp)) (.pointer (some rp))) := by rw [hW2]; exact node_set2 (node_set1 (node_set0 HB1.out _) _) _
      have X2 := FS.keeps HFH.out (fun e => hbf e.symm)
      have T2 := treeIn.frame FS HM1.out.tl (fun k hk e => by subst e; exact n1 hk)
      have U2 := treeIn.frame FS HM1.out.tr (fun k hk e => by subst e; exact n2 hk)
      have F2 := HM1.out.fr.next FS (fun k _ e => show k ∈ blocksT (.node b 0 a l r) from by simp [blocksT, e])
      clear hW2 g0 g1 g2 g5 d0' d1' d2' d5' d6' f0 f1 f2 FS
      obtain ⟨_, _, _, _, _, _, c6⟩ := node_cells B2
      obtain ⟨x0, x1, x2, _, _, _, _⟩ := node_cells X2
      have hx : firstT (f, id, to) r = itN fa := HFE.out
      have hD' : DropOk r (itN fa) := hx ▸ HDD.out
      have hdd := hD'.out
      have hfin := HF.out
      rw [hx] at hfin
      obtain ⟨R', hR'⟩ : ∃ R', R' = dropT r (itN fa) := ⟨_, rfl⟩
      have ih2 : ∀ w, treeIn w r → Calls Tryz.prog 74 #[.pointer (some rp), .int .i64 fa.id, .agg #[.int .i64 fa.f, .int .i64 fa.t]] w fun e w' => e = .returned R'.ptr ∧ treeIn w' R' ∧ Fr (· ∈ blocksT r) w w' := fun w h => by rw [hR']; exact IHR.out (itN fa) w h hD'
      rw [← hR'] at hfin hdd
      have hfin : dropT (.node b 0 a l r) (f, id, to) = levelT b ⟨fa.id, fa.f, fa.t, a.last, a.high⟩ l R' := hfin
      have HFIN := Lib.hid hfin
      have HD2 := Lib.hid hdd
      have IH2 := Lib.hid ih2
      clear hfin hdd ih2 hR' hx hD' X2
      go_wp2_with fail
      go_region_with ((go_at_call 74; refine (IH2.out _ (by exact U2)).mono ?_; rintro e w3 ⟨rfl, T3, F3⟩; obtain ⟨u, hu⟩ := ptr_some R'; rw [hu]; have HU := Lib.hid hu; clear hu; have hb3 := F3.keeps (b := b) B2 (fun h => n2 h); have f6 := node_free hb3 6; obtain ⟨_, _, _, _, _, _, c6'⟩ := node_cells hb3))
      all_goals
        have F3' : Fr (· ∈ blocksT (.node b 0 a l r)) w w3 := F2.drew.next F3 (fun k _ e => List.mem_cons_of_mem _ (List.mem_append_right _ e))
        have T3' : treeIn w3 l := treeIn.frame F3 T2 (fun k hk e => n5 k hk e)
        have hnt : b ∉ blocksT R' := fun h => n2 (HD2.out.sub b h)
        have hnd : (blocksT (.node b 0 a l R')).Nodup := by
          refine List.nodup_cons.2 ⟨fun h => ?_, List.nodup_append.2 ⟨n3, HD2.out.sep, fun y h1 z h2 e => n5 y h1 (by rw [e]; exact HD2.out.sub z h2)⟩⟩
          rcases List.mem_append.1 h with h | h
          · exact n1 h
          · exact hnt h
        have FS : Fr (· = b) w3 (w3.setCell ⟨b, 6, none⟩ (.pointer u)) := Fr.setCell (F := (· = b)) (Fr.refl _ w3) (p := ⟨b, 6, none⟩) (fun _ => rfl) _
        have T4 := treeIn.frame FS T3 (fun k hk e => by subst e; exact hnt hk)
        have U4 := treeIn.frame FS T3' (fun k hk e => by subst e; exact n1 hk)
        have B4 := node_set6 hb3 (.pointer u)
        rw [← EL.out, ← HU.out] at B4
        rw [← HU.out] at T4 U4
        have F4 := F3'.next FS (fun k _ e => show k ∈ blocksT (.node b 0 a l r) from by simp [blocksT, e])
        rw [← HU.out] at F4
        clear FS T3 T3' hb3 c6' f6 F3 F3' T2 U2 B2 c6 x0 x1 x2
        go_wp2_with fail
        rw [← HU.out]
        refine (level_any b ⟨fa.id, fa.f, fa.t, a.last, a.high⟩ l R' _ ⟨⟨rfl, B4⟩, U4, T4⟩ hnd hl HD2.out.fit (by have := HD2.out.len; omega)).mono ?_
        rintro e w5 ⟨rfl, T5, F5⟩
        have F6 := F4.next F5 (fun k hk e => by
          rcases List.mem_cons.1 e with e | e
          · simp [blocksT, e]
          · rcases List.mem_append.1 e with e | e
            · simp [blocksT, e]
            · simp [blocksT, HD2.out.sub k e])
        go_wp2_with fail
        go_ret
        exact ⟨by rw [HFIN.out]; rfl, by rw [HFIN.out]; exact T5, F6⟩

theorem drop_any : ∀ (t : BT Nd) (x : It) (w : World), treeIn w t → DropOk t x → Calls Tryz.prog 74 #[t.ptr, .int .i64 x.2.1, .agg #[.int .i64 x.1, .int .i64 x.2.2]] w (DropPost x t w)
  | .nil, x, _, _, h => by have := h.mem; cases this
  | .node b o a l r, (f, id, to), w, hin, h => by
    obtain ⟨hsep, hf, hs, hu, hm, hc⟩ := h
    obtain rfl : o = 0 := hf.1
    have hlen : (itemsT (.node b 0 a l r)).length = (itemsT l).length + 1 + (itemsT r).length := by simp [itemsT]; omega
    obtain ⟨s1, s2, s3, s4⟩ := srt_parts hs
    obtain ⟨u1, u2⟩ := nodup_parts hu
    obtain ⟨n1, n2, n3, n4, n5⟩ := sep_node hsep
    show Calls Tryz.prog 74 #[.pointer (some ⟨b, 0, none⟩), .int .i64 id, .agg #[.int .i64 f, .int .i64 to]] w _
    cases hid : (a.id == id)
    · have hne : itN a ≠ (f, id, to) := fun e => by
        have : a.id = id := congrArg (fun x : It => x.2.1) e
        simp [this] at hid
      cases h : aheadB (f, id, to) (itN a)
      · have hmr : (f, id, to) ∈ itemsT r := by
          rcases List.mem_append.1 (show (f, id, to) ∈ itemsT l ++ itN a :: itemsT r from hm) with h1 | h1
          · have := s3 _ h1; unfold aheadB at h; simp [this] at h
          · rcases List.mem_cons.1 h1 with h2 | h2
            · exact absurd h2.symm hne
            · exact h2
        have ok : DropOk r (f, id, to) := ⟨n4, hf.2.2.2.2, s2, u2, hmr, by omega⟩
        exact drop_right id f to b a l r (fun w h1 => drop_any r (f, id, to) w h1 ok) w hin hsep hf.2.2.2.1 hf.2.2.2.2 (by omega) ok.out hid h
      · have hml : (f, id, to) ∈ itemsT l := by
          rcases List.mem_append.1 (show (f, id, to) ∈ itemsT l ++ itN a :: itemsT r from hm) with h1 | h1
          · exact h1
          · rcases List.mem_cons.1 h1 with h2 | h2
            · exact absurd h2.symm hne
            · unfold aheadB at h
              exact absurd (ahead_trans (by simpa using h) (s4 _ h2)) (ahead_irrefl _)
        have ok : DropOk l (f, id, to) := ⟨n3, hf.2.2.2.1, s1, u1, hml, by omega⟩
        exact drop_left id f to b a l r (fun w h1 => drop_any l (f, id, to) w h1 ok) w hin hsep hf.2.2.2.1 hf.2.2.2.2 (by omega) ok.out hid h
    · by_cases hl : l = .nil
      · subst hl
        exact drop_lnil id f to b a r w hin hid
      · by_cases hr : r = .nil
        · subst hr
          exact drop_rnil id f to b a l w hin hl hid
        · obtain ⟨rest, hrest⟩ := first_spec (f, id, to) hr
          exact drop_mid id f to b a l r (fun y w h1 ok => drop_any r y w h1 ok) w hin hsep hf.2.2.2.1 hf.2.2.2.2 (by omega) hl hr ⟨n4, hf.2.2.2.2, s2, u2, by rw [hrest]; simp, by omega⟩ hid
end Go.Proofs.YtacedfcckkpciaaGreatDoor
