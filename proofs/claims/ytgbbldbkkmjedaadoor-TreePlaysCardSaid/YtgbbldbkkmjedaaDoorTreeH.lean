/- The span of a number goes from a tree: the node that holds it has two sides (drop). -/
import Derived.Test.YtgbbldbkkmjedaaDoorTreeG
namespace Go.Proofs.YtgbbldbkkmjedaaDoor
open Go.RowKit Go.Deep Go.Shelf Go.Sort

def leftLen : BT Nd → Nat
  | .nil => 0
  | .node _ _ _ l _ => leftLen l + 1
/-- A node on the way to the first one. -/
def OnWay (w : World) (r : BT Nd) (x : It) (k : Nat) (p : Value) : Prop :=
  ∃ (fb : Nat) (fa : Nd) (fl fr : BT Nd), p = .pointer (some ⟨fb, 0, none⟩) ∧ treeIn w (.node fb 0 fa fl fr) ∧ firstT x r = firstT (itN fa) fl ∧ leftLen fl ≤ k ∧ ∀ k ∈ blocksT (.node fb 0 fa fl fr), k ∈ blocksT r

theorem S_far {W : World} {b fb : Nat} {fa : Nd} (hbf : b ≠ fb) (h : W.cell? ⟨fb, 0, none⟩ = some (.int .i64 fa.id) ∧ W.cell? ⟨fb, 1, none⟩ = some (.int .i64 fa.f) ∧ W.cell? ⟨fb, 2, none⟩ = some (.int .i64 fa.t)) (i : Nat) (v : Value) :
    (W.setCell ⟨b, i, none⟩ v).cell? ⟨fb, 0, none⟩ = some (.int .i64 fa.id) ∧ (W.setCell ⟨b, i, none⟩ v).cell? ⟨fb, 1, none⟩ = some (.int .i64 fa.f) ∧ (W.setCell ⟨b, i, none⟩ v).cell? ⟨fb, 2, none⟩ = some (.int .i64 fa.t) := by
  have e : ∀ j, (W.setCell ⟨b, i, none⟩ v).cell? ⟨fb, j, none⟩ = W.cell? ⟨fb, j, none⟩ := fun j => World.cell?_setCell_far _ _ _ _ hbf
  exact ⟨(e 0).trans h.1, (e 1).trans h.2.1, (e 2).trans h.2.2⟩
structure MidW (w : World) (b : Nat) (a : Nd) (lp rp : Addr) (l r : BT Nd) (W : World) : Prop where
  hb : W.heap[b]? = some (nodeO a (.pointer (some lp)) (.pointer (some rp)))
  tl : treeIn W l
  tr : treeIn W r
  fr : Fr (· ∈ blocksT (.node b 0 a l r)) w W
theorem node_set0 {w : World} {b : Nat} {a : Nd} {l r : Value} (h : w.heap[b]? = some (nodeO a l r)) (v : Int) : (w.setCell ⟨b, 0, none⟩ (.int .i64 v)).heap[b]? = some (nodeO { a with id := v } l r) := block_set h 0 _
theorem node_set1 {w : World} {b : Nat} {a : Nd} {l r : Value} (h : w.heap[b]? = some (nodeO a l r)) (v : Int) : (w.setCell ⟨b, 1, none⟩ (.int .i64 v)).heap[b]? = some (nodeO { a with f := v } l r) := block_set h 1 _
theorem node_set2 {w : World} {b : Nat} {a : Nd} {l r : Value} (h : w.heap[b]? = some (nodeO a l r)) (v : Int) : (w.setCell ⟨b, 2, none⟩ (.int .i64 v)).heap[b]? = some (nodeO { a with t := v } l r) := block_set h 2 _

set_option maxRecDepth 100000 in
set_option maxHeartbeats 8000000 in
theorem drop_mid (id f to : Int) (b : Nat) (a : Nd) (l r : BT Nd) (ihr : ∀ (y : It) w, treeIn w r → DropOk r y → Calls Tryd.prog 55 #[r.ptr, .int .i64 y.2.1, .agg #[.int .i64 y.1, .int .i64 y.2.2]] w (DropPost y r w))
    (w : World) (hin : treeIn w (.node b 0 a l r)) (hsep : (blocksT (.node b 0 a l r)).Nodup) (hl : FitT l) (hr : FitT r) (hc : (itemsT l).length + (itemsT r).length < 549755813888)
    (hnl : l ≠ .nil) (hnr : r ≠ .nil) (hD : DropOk r (firstT (f, id, to) r)) (hid : (a.id == id) = true) :
    Calls Tryd.prog 55 #[.pointer (some ⟨b, 0, none⟩), .int .i64 id, .agg #[.int .i64 f, .int .i64 to]] w (DropPost (f, id, to) (.node b 0 a l r) w) := by
  obtain ⟨_, hb, hll, hrr⟩ := hin.parts
  obtain ⟨n1, n2, n3, n4, n5⟩ := sep_node hsep
  have hfin := dropT_mid (b := b) (o := 0) (x := (f, id, to)) hid hnl hnr
  obtain ⟨lp, el⟩ := ptr_ne hnl
  obtain ⟨rp, er⟩ := ptr_ne hnr
  rw [el, er] at hb
  rw [er] at ihr
  have HF := Lib.hid hfin
  have EL := Lib.hid el
  have ER := Lib.hid er
  have IHR := Lib.hid ihr
  have HDD := Lib.hid hD
  have HINN := Lib.hid hin
  clear el er ihr hfin hD hin
  have hbl := lt_of_block hb
  obtain ⟨d0, _, _, _, _, d5, d6⟩ := node_cells hb
  have HB := Lib.hid hb
  clear hb
  have hw0 : OnWay (w.alloc (.cells #[.int .i64 f, .int .i64 to] 34)) r (f, id, to) (leftLen r) (.pointer (some rp)) := by
    cases r with
    | nil => exact absurd rfl hnr
    | node rb ro ra rl rr =>
      have h0 : ro = 0 := hr.1
      subst h0
      have e := ER.out
      cases e
      exact ⟨rb, ra, rl, rr, rfl, treeIn.frame (F := fun _ => False) (Fr.alloc (Fr.refl _ w) _) hrr (fun _ _ e => e), rfl, by simp [leftLen], fun k hk => hk⟩
  go_enter Tryd.func55, Tryd.ntmps55
  go_wp2_with fail
  have hM : MidW w b a lp rp l r (w.alloc (.cells #[.int .i64 f, .int .i64 to] 34)) :=
    ⟨block_alloc HB.out _, treeIn.frame (F := fun _ => False) (Fr.alloc (Fr.refl _ w) _) hll (fun _ _ e => e), treeIn.frame (F := fun _ => False) (Fr.alloc (Fr.refl _ w) _) hrr (fun _ _ e => e), Fr.alloc (Fr.refl _ w) _⟩
  go_loopg [7] (leftLen r) (fun k p wr => OnWay wr r (f, id, to) k p ∧ MidW w b a lp rp l r wr)
  case atStart => exact ⟨hw0, hM⟩
  case round =>
    obtain ⟨hway, hM1⟩ := hrel
    obtain ⟨fb, fa, fl, fr, rfl, hfi, hfe, hk, hfb⟩ := hway
    obtain ⟨_, hfh, hfl, hfr⟩ := hfi.parts
    have HFE := Lib.hid hfe
    have HFI := Lib.hid hfi
    have HM1 := Lib.hid hM1
    clear hfe hfi hM1 hw0 hM
    cases fl with
    | node xb xo xa xl xr =>
      have h0 : xo = 0 := hfl.parts.1
      subst h0
      have hfh' : wr.heap[fb]? = some (nodeO fa (.pointer (some ⟨xb, 0, none⟩)) fr.ptr) := hfh
      obtain ⟨_, _, _, _, _, g5, _⟩ := node_cells hfh'
      clear hfh hfh'
      go_wp2_with fail
      go_roundg (leftLen xl)
      case measure => simp [leftLen] at hk; omega
      case rel => exact ⟨⟨xb, xa, xl, xr, rfl, hfl, HFE.out, Nat.le_refl _, fun k hk => hfb k (by simp only [blocksT, List.mem_cons, List.mem_append] at hk ⊢; exact Or.inr (Or.inl hk))⟩, HM1.out⟩
    | nil =>
      have hfh' : wr.heap[fb]? = some (nodeO fa (.pointer none) fr.ptr) := hfh
      obtain ⟨g0, g1, g2, _, _, g5, _⟩ := node_cells hfh'
      have hbf : b ≠ fb := fun e => n2 (by rw [e]; exact hfb fb (by simp [blocksT]))
      have hb1 := HM1.out.hb
      obtain ⟨d0', d1', d2', _, _, d5', d6'⟩ := node_cells hb1
      have f0 := node_free hb1 0
      have f1 := node_free hb1 1
      have f2 := node_free hb1 2
      have HB1 := Lib.hid hb1
      have HFH := Lib.hid hfh'
      clear hfh hfh' hb1 d0 d5 d6
      go_wp2_with fail
      go_region_held3 (fun W => W.cell? ⟨fb, 0, none⟩ = some (.int .i64 fa.id) ∧ W.cell? ⟨fb, 1, none⟩ = some (.int .i64 fa.f) ∧ W.cell? ⟨fb, 2, none⟩ = some (.int .i64 fa.t))
        (first | exact ⟨g0, g1, g2⟩ | exact S_far (W := wr) hbf ⟨g0, g1, g2⟩ 0 _ | exact S_far hbf (S_far hbf (S_far (W := wr) hbf ⟨g0, g1, g2⟩ 0 _) 1 _) 2 _) (fail)
      obtain ⟨W2, hW2⟩ : ∃ W2, W2 = (((wr.setCell ⟨b, 0, none⟩ (.int .i64 fa.id)).setCell ⟨b, 1, none⟩ (.int .i64 fa.f)).setCell ⟨b, 2, none⟩ (.int .i64 fa.t)).drew := ⟨_, rfl⟩
      rw [← hW2]
      have FS : Fr (· = b) wr W2 := by
        rw [hW2]
        exact Fr.drew (Fr.setCell (F := (· = b)) (Fr.setCell (F := (· = b)) (Fr.setCell (F := (· = b)) (Fr.refl _ wr) (p := ⟨b, 0, none⟩) (fun _ => rfl) _) (p := ⟨b, 1, none⟩) (fun _ => rfl) _) (p := ⟨b, 2, none⟩) (fun _ => rfl) _)
      have B2 : W2.heap[b]? = some (nodeO ⟨fa.id, fa.f, fa.t, a.last, a.high⟩ (.pointer (some lp)) (.pointer (some rp))) := by rw [hW2]; exact node_set2 (node_set1 (node_set0 HB1.out _) _) _
      have X2 := FS.keeps HFH.out (fun e => hbf e.symm)
      have T2 := treeIn.frame FS HM1.out.tl (fun k hk e => by subst e; exact n1 hk)
      have U2 := treeIn.frame FS HM1.out.tr (fun k hk e => by subst e; exact n2 hk)
      have F2 := HM1.out.fr.next FS (fun k _ e => show k ∈ blocksT (.node b 0 a l r) from by simp [blocksT, e])
      clear hW2 g0 g1 g2 g5 d0' d1' d2' d5' d6' f0 f1 f2 FS
      obtain ⟨_, _, _, _, _, _, c6⟩ := node_cells B2
      obtain ⟨x0, x1, x2, _, _, _, _⟩ := node_cells X2
      have hx : firstT (f, id, to) r = itN fa := HFE.out
      have hD' : DropOk r (itN fa) := hx ▸ HDD.out
      have hdd := hD'.out
      have hfin := HF.out
      rw [hx] at hfin
      obtain ⟨R', hR'⟩ : ∃ R', R' = dropT r (itN fa) := ⟨_, rfl⟩
      have ih2 : ∀ w, treeIn w r → Calls Tryd.prog 55 #[.pointer (some rp), .int .i64 fa.id, .agg #[.int .i64 fa.f, .int .i64 fa.t]] w fun e w' => e = .returned R'.ptr ∧ treeIn w' R' ∧ Fr (· ∈ blocksT r) w w' := fun w h => by rw [hR']; exact IHR.out (itN fa) w h hD'
      rw [← hR'] at hfin hdd
      have hfin : dropT (.node b 0 a l r) (f, id, to) = levelT b ⟨fa.id, fa.f, fa.t, a.last, a.high⟩ l R' := hfin
      have HFIN := Lib.hid hfin
      have HD2 := Lib.hid hdd
      have IH2 := Lib.hid ih2
      clear hfin hdd ih2 hR' hx hD' X2
      go_wp2_with fail
      go_region_with ((go_at_call 55; refine (IH2.out _ (by exact U2)).mono ?_; rintro e w3 ⟨rfl, T3, F3⟩; obtain ⟨u, hu⟩ := ptr_some R'; rw [hu]; have HU := Lib.hid hu; clear hu; have hb3 := F3.keeps (b := b) B2 (fun h => n2 h); have f6 := node_free hb3 6; obtain ⟨_, _, _, _, _, _, c6'⟩ := node_cells hb3))
      all_goals
        have F3' : Fr (· ∈ blocksT (.node b 0 a l r)) w w3 := F2.drew.next F3 (fun k _ e => List.mem_cons_of_mem _ (List.mem_append_right _ e))
        have T3' : treeIn w3 l := treeIn.frame F3 T2 (fun k hk e => n5 k hk e)
        have hnt : b ∉ blocksT R' := fun h => n2 (HD2.out.sub b h)
        have hnd : (blocksT (.node b 0 a l R')).Nodup := by
          refine List.nodup_cons.2 ⟨fun h => ?_, List.nodup_append.2 ⟨n3, HD2.out.sep, fun y h1 z h2 e => n5 y h1 (by rw [e]; exact HD2.out.sub z h2)⟩⟩
          rcases List.mem_append.1 h with h | h
          · exact n1 h
          · exact hnt h
        have FS : Fr (· = b) w3 (w3.setCell ⟨b, 6, none⟩ (.pointer u)) := Fr.setCell (F := (· = b)) (Fr.refl _ w3) (p := ⟨b, 6, none⟩) (fun _ => rfl) _
        have T4 := treeIn.frame FS T3 (fun k hk e => by subst e; exact hnt hk)
        have U4 := treeIn.frame FS T3' (fun k hk e => by subst e; exact n1 hk)
        have B4 := node_set6 hb3 (.pointer u)
        rw [← EL.out, ← HU.out] at B4
        rw [← HU.out] at T4 U4
        have F4 := F3'.next FS (fun k _ e => show k ∈ blocksT (.node b 0 a l r) from by simp [blocksT, e])
        rw [← HU.out] at F4
        clear FS T3 T3' hb3 c6' f6 F3 F3' T2 U2 B2 c6 x0 x1 x2
        go_wp2_with fail
        rw [← HU.out]
        refine (level_any b ⟨fa.id, fa.f, fa.t, a.last, a.high⟩ l R' _ ⟨⟨rfl, B4⟩, U4, T4⟩ hnd hl HD2.out.fit (by have := HD2.out.len; omega)).mono ?_
        rintro e w5 ⟨rfl, T5, F5⟩
        have F6 := F4.next F5 (fun k hk e => by
          rcases List.mem_cons.1 e with e | e
          · simp [blocksT, e]
          · rcases List.mem_append.1 e with e | e
            · simp [blocksT, e]
            · simp [blocksT, HD2.out.sub k e])
        go_wp2_with fail
        go_ret
        exact ⟨by rw [HFIN.out]; rfl, by rw [HFIN.out]; exact T5, F6⟩

theorem drop_any : ∀ (t : BT Nd) (x : It) (w : World), treeIn w t → DropOk t x → Calls Tryd.prog 55 #[t.ptr, .int .i64 x.2.1, .agg #[.int .i64 x.1, .int .i64 x.2.2]] w (DropPost x t w)
  | .nil, x, _, _, h => by have := h.mem; cases this
  | .node b o a l r, (f, id, to), w, hin, h => by
    obtain ⟨hsep, hf, hs, hu, hm, hc⟩ := h
    obtain rfl : o = 0 := hf.1
    have hlen : (itemsT (.node b 0 a l r)).length = (itemsT l).length + 1 + (itemsT r).length := by simp [itemsT]; omega
    obtain ⟨s1, s2, s3, s4⟩ := srt_parts hs
    obtain ⟨u1, u2⟩ := nodup_parts hu
    obtain ⟨n1, n2, n3, n4, n5⟩ := sep_node hsep
    show Calls Tryd.prog 55 #[.pointer (some ⟨b, 0, none⟩), .int .i64 id, .agg #[.int .i64 f, .int .i64 to]] w _
    cases hid : (a.id == id)
    · have hne : itN a ≠ (f, id, to) := fun e => by
        have : a.id = id := congrArg (fun x : It => x.2.1) e
        simp [this] at hid
      cases h : aheadB (f, id, to) (itN a)
      · have hmr : (f, id, to) ∈ itemsT r := by
          rcases List.mem_append.1 (show (f, id, to) ∈ itemsT l ++ itN a :: itemsT r from hm) with h1 | h1
          · have := s3 _ h1; unfold aheadB at h; simp [this] at h
          · rcases List.mem_cons.1 h1 with h2 | h2
            · exact absurd h2.symm hne
            · exact h2
        have ok : DropOk r (f, id, to) := ⟨n4, hf.2.2.2.2, s2, u2, hmr, by omega⟩
        exact drop_right id f to b a l r (fun w h1 => drop_any r (f, id, to) w h1 ok) w hin hsep hf.2.2.2.1 hf.2.2.2.2 (by omega) ok.out hid h
      · have hml : (f, id, to) ∈ itemsT l := by
          rcases List.mem_append.1 (show (f, id, to) ∈ itemsT l ++ itN a :: itemsT r from hm) with h1 | h1
          · exact h1
          · rcases List.mem_cons.1 h1 with h2 | h2
            · exact absurd h2.symm hne
            · unfold aheadB at h
              exact absurd (ahead_trans (by simpa using h) (s4 _ h2)) (ahead_irrefl _)
        have ok : DropOk l (f, id, to) := ⟨n3, hf.2.2.2.1, s1, u1, hml, by omega⟩
        exact drop_left id f to b a l r (fun w h1 => drop_any l (f, id, to) w h1 ok) w hin hsep hf.2.2.2.1 hf.2.2.2.2 (by omega) ok.out hid h
    · by_cases hl : l = .nil
      · subst hl
        exact drop_lnil id f to b a r w hin hid
      · by_cases hr : r = .nil
        · subst hr
          exact drop_rnil id f to b a l w hin hl hid
        · obtain ⟨rest, hrest⟩ := first_spec (f, id, to) hr
          exact drop_mid id f to b a l r (fun y w h1 ok => drop_any r y w h1 ok) w hin hsep hf.2.2.2.1 hf.2.2.2.2 (by omega) hl hr ⟨n4, hf.2.2.2.2, s2, u2, by rw [hrest]; simp, by omega⟩ hid
end Go.Proofs.YtgbbldbkkmjedaaDoor
