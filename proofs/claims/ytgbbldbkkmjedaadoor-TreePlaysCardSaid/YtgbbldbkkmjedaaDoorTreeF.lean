/- The span of a number goes from a tree (drop). -/
import Derived.Test.YtgbbldbkkmjedaaDoorTreeE
import Derived.Deep.LoopGhost
namespace Go.Proofs.YtgbbldbkkmjedaaDoor
open Go.RowKit Go.Deep Go.Shelf Go.Sort

theorem drop_blocks : ∀ {t : BT Nd} (x : It), FitT t → SrtT (itemsT t) → ((itemsT t).map (·.2.1)).Nodup → x ∈ itemsT t → (blocksT t).Nodup →
    (blocksT (dropT t x)).Nodup ∧ ∀ k ∈ blocksT (dropT t x), k ∈ blocksT t
  | .nil, _, _, _, _, h, _ => by cases h
  | .node b o a l r, x, h, hs, hu, hm, hd => by
    obtain ⟨s1, s2, s3, s4⟩ := srt_parts hs
    obtain ⟨u1, u2⟩ := nodup_parts hu
    obtain ⟨n1, n2, n3, n4, n5⟩ := sep_node hd
    have hma : itN a ∈ itemsT (.node b o a l r) := by simp [itemsT]
    have hspec := drop_spec x h hs hu hm
    unfold dropT
    by_cases hid : a.id = x.2.1
    · rw [if_pos hid]
      by_cases hl : isNil l = true
      · rw [if_pos hl]; exact ⟨n4, fun k hk => by simp [blocksT, hk]⟩
      · rw [if_neg hl]
        by_cases hr : isNil r = true
        · rw [if_pos hr]; exact ⟨n3, fun k hk => by simp [blocksT, hk]⟩
        · rw [if_neg hr]
          have hrn : r ≠ .nil := fun e => hr (isNil_iff.2 e)
          obtain ⟨rest, hrest⟩ := first_spec x hrn
          have hmr : firstT x r ∈ itemsT r := by rw [hrest]; simp
          obtain ⟨d1, d2, d3⟩ := drop_spec (firstT x r) h.2.2.2.2 s2 u2 hmr
          obtain ⟨e1, e2⟩ := drop_blocks (firstT x r) h.2.2.2.2 s2 u2 hmr n4
          have hp := level_blocks (b := b) (a := ⟨(firstT x r).2.1, (firstT x r).1, (firstT x r).2.2, a.last, a.high⟩) h.2.2.2.1 d1
          refine ⟨hp.nodup_iff.2 (List.nodup_cons.2 ⟨?_, List.nodup_append.2 ⟨n3, e1, fun y h1 z h2 e => n5 y h1 (by rw [e]; exact e2 z h2)⟩⟩), fun k hk => ?_⟩
          · rw [List.mem_append]; rintro (h1 | h1); exact n1 h1; exact n2 (e2 _ h1)
          · rcases List.mem_cons.1 (hp.mem_iff.1 hk) with h1 | h1
            · simp [blocksT, h1]
            · rcases List.mem_append.1 h1 with h1 | h1
              · simp [blocksT, h1]
              · simp [blocksT, e2 k h1]
    · rw [if_neg hid]
      by_cases hc : aheadP x (itN a)
      · rw [if_pos hc]
        have hml : x ∈ itemsT l := by
          rcases List.mem_append.1 (show x ∈ itemsT l ++ itN a :: itemsT r from hm) with h1 | h1
          · exact h1
          · rcases List.mem_cons.1 h1 with h2 | h2
            · rw [h2] at hid; exact absurd rfl hid
            · exact absurd (ahead_trans hc (s4 x h2)) (ahead_irrefl x)
        obtain ⟨d1, d2, d3⟩ := drop_spec x h.2.2.2.1 s1 u1 hml
        obtain ⟨e1, e2⟩ := drop_blocks x h.2.2.2.1 s1 u1 hml n3
        have hp := level_blocks (b := b) (a := a) d1 h.2.2.2.2
        refine ⟨hp.nodup_iff.2 (List.nodup_cons.2 ⟨?_, List.nodup_append.2 ⟨e1, n4, fun y h1 z h2 e => n5 y (e2 y h1) (by rw [e]; exact h2)⟩⟩), fun k hk => ?_⟩
        · rw [List.mem_append]; rintro (h1 | h1); exact n1 (e2 _ h1); exact n2 h1
        · rcases List.mem_cons.1 (hp.mem_iff.1 hk) with h1 | h1
          · simp [blocksT, h1]
          · rcases List.mem_append.1 h1 with h1 | h1
            · simp [blocksT, e2 k h1]
            · simp [blocksT, h1]
      · rw [if_neg hc]
        have hmr : x ∈ itemsT r := by
          rcases List.mem_append.1 (show x ∈ itemsT l ++ itN a :: itemsT r from hm) with h1 | h1
          · exact absurd (s3 x h1) hc
          · rcases List.mem_cons.1 h1 with h2 | h2
            · rw [h2] at hid; exact absurd rfl hid
            · exact h2
        obtain ⟨d1, d2, d3⟩ := drop_spec x h.2.2.2.2 s2 u2 hmr
        obtain ⟨e1, e2⟩ := drop_blocks x h.2.2.2.2 s2 u2 hmr n4
        have hp := level_blocks (b := b) (a := a) h.2.2.2.1 d1
        refine ⟨hp.nodup_iff.2 (List.nodup_cons.2 ⟨?_, List.nodup_append.2 ⟨n3, e1, fun y h1 z h2 e => n5 y h1 (by rw [e]; exact e2 z h2)⟩⟩), fun k hk => ?_⟩
        · rw [List.mem_append]; rintro (h1 | h1); exact n1 h1; exact n2 (e2 _ h1)
        · rcases List.mem_cons.1 (hp.mem_iff.1 hk) with h1 | h1
          · simp [blocksT, h1]
          · rcases List.mem_append.1 h1 with h1 | h1
            · simp [blocksT, h1]
            · simp [blocksT, e2 k h1]

def DropPost (x : It) (t : BT Nd) (w : World) (e : Ending) (w' : World) : Prop := e = .returned (dropT t x).ptr ∧ treeIn w' (dropT t x) ∧ Fr (· ∈ blocksT t) w w'
theorem dropT_pos {b o : Nat} {x : It} {a : Nd} {l r : BT Nd} (hid : (a.id == x.2.1) = false) (h : aheadB x (itN a) = true) : dropT (.node b o a l r) x = levelT b a (dropT l x) r := by
  show (if a.id = x.2.1 then _ else if aheadP x (itN a) then _ else _) = _
  rw [if_neg (by simpa using hid), if_pos (by unfold aheadB at h; simpa using h)]
theorem dropT_neg {b o : Nat} {x : It} {a : Nd} {l r : BT Nd} (hid : (a.id == x.2.1) = false) (h : aheadB x (itN a) = false) : dropT (.node b o a l r) x = levelT b a l (dropT r x) := by
  show (if a.id = x.2.1 then _ else if aheadP x (itN a) then _ else _) = _
  rw [if_neg (by simpa using hid), if_neg (by unfold aheadB at h; simpa using h)]
theorem dropT_lnil {b o : Nat} {x : It} {a : Nd} {r : BT Nd} (hid : (a.id == x.2.1) = true) : dropT (.node b o a .nil r) x = r := by
  show (if a.id = x.2.1 then _ else if aheadP x (itN a) then _ else _) = _
  rw [if_pos (by simpa using hid)]; rfl
theorem dropT_rnil {b o : Nat} {x : It} {a : Nd} {l : BT Nd} (hid : (a.id == x.2.1) = true) (hl : l ≠ .nil) : dropT (.node b o a l .nil) x = l := by
  show (if a.id = x.2.1 then _ else if aheadP x (itN a) then _ else _) = _
  rw [if_pos (by simpa using hid), if_neg (by rw [isNil_iff]; exact hl)]; rfl
theorem dropT_mid {b o : Nat} {x : It} {a : Nd} {l r : BT Nd} (hid : (a.id == x.2.1) = true) (hl : l ≠ .nil) (hr : r ≠ .nil) : dropT (.node b o a l r) x = levelT b ⟨(firstT x r).2.1, (firstT x r).1, (firstT x r).2.2, a.last, a.high⟩ l (dropT r (firstT x r)) := by
  show (if a.id = x.2.1 then _ else if aheadP x (itN a) then _ else _) = _
  rw [if_pos (by simpa using hid), if_neg (by rw [isNil_iff]; exact hl), if_neg (by rw [isNil_iff]; exact hr)]
theorem ptr_ne {t : BT Nd} (h : t ≠ .nil) : ∃ a, t.ptr = .pointer (some a) := by cases t; exact absurd rfl h; exact ⟨_, rfl⟩

set_option maxRecDepth 100000 in
set_option maxHeartbeats 4000000 in
theorem drop_lnil (id f to : Int) (b : Nat) (a : Nd) (r : BT Nd) (w : World) (hin : treeIn w (.node b 0 a .nil r)) (hid : (a.id == id) = true) :
    Calls Tryd.prog 55 #[.pointer (some ⟨b, 0, none⟩), .int .i64 id, .agg #[.int .i64 f, .int .i64 to]] w (DropPost (f, id, to) (.node b 0 a .nil r) w) := by
  obtain ⟨_, hb, _, hrr⟩ := hin.parts
  obtain ⟨rp, er⟩ := ptr_some r
  rw [er] at hb
  have hbn : w.heap[b]? = some (nodeO a (.pointer none) (.pointer rp)) := hb
  obtain ⟨c0, _, _, _, _, c5, c6⟩ := node_cells hbn
  have hbl := lt_of_block hb
  have ER := Lib.hid er
  have HB := Lib.hid hbn
  clear er hb hbn
  go_enter Tryd.func55, Tryd.ntmps55
  go_wp2_with fail
  go_ret
  refine ⟨by rw [dropT_lnil hid, ER.out]; rfl, by rw [dropT_lnil hid]; exact treeIn.frame (F := fun _ => False) (Fr.alloc (Fr.refl _ w) _) hrr (fun _ _ e => e), Fr.alloc (Fr.refl _ w) _⟩
set_option maxRecDepth 100000 in
set_option maxHeartbeats 4000000 in
theorem drop_rnil (id f to : Int) (b : Nat) (a : Nd) (l : BT Nd) (w : World) (hin : treeIn w (.node b 0 a l .nil)) (hl : l ≠ .nil) (hid : (a.id == id) = true) :
    Calls Tryd.prog 55 #[.pointer (some ⟨b, 0, none⟩), .int .i64 id, .agg #[.int .i64 f, .int .i64 to]] w (DropPost (f, id, to) (.node b 0 a l .nil) w) := by
  obtain ⟨_, hb, hll, _⟩ := hin.parts
  obtain ⟨lp, el⟩ := ptr_ne hl
  rw [el] at hb
  have hbn : w.heap[b]? = some (nodeO a (.pointer (some lp)) (.pointer none)) := hb
  obtain ⟨c0, _, _, _, _, c5, c6⟩ := node_cells hbn
  have hbl := lt_of_block hb
  have EL := Lib.hid el
  have HB := Lib.hid hbn
  clear el hb hbn
  go_enter Tryd.func55, Tryd.ntmps55
  go_wp2_with fail
  go_ret
  refine ⟨by rw [dropT_rnil hid hl, EL.out]; rfl, by rw [dropT_rnil hid hl]; exact treeIn.frame (F := fun _ => False) (Fr.alloc (Fr.refl _ w) _) hll (fun _ _ e => e), Fr.alloc (Fr.refl _ w) _⟩
end Go.Proofs.YtgbbldbkkmjedaaDoor
