/- Trees are turned (turnRight, turnLeft). -/
import Derived.Test.YtcdgochkcfogiaaTreeB
namespace Go.Proofs.Ytcdgochkcfogiaa
open Go.RowKit Go.Deep

theorem treeIn.frame {F : Nat → Prop} {w w' : World} (hf : Fr F w w') : ∀ {t : BT Nd}, treeIn w t → (∀ k ∈ blocksT t, ¬ F k) → treeIn w' t
  | .nil, _, _ => trivial
  | .node b o a l r, h, hn => ⟨⟨h.1.1, hf.keeps h.1.2 (hn b (by simp [blocksT]))⟩, treeIn.frame hf h.2.1 (fun k hk => hn k (by simp [blocksT, hk])), treeIn.frame hf h.2.2 (fun k hk => hn k (by simp [blocksT, hk]))⟩
theorem rootB_sub {t : BT Nd} {k : Nat} (h : k ∈ rootB t) : k ∈ blocksT t := by
  cases t with
  | nil => cases h
  | node b o a l r => simp [rootB] at h; simp [blocksT, h]
theorem treeIn.lt {w : World} : ∀ {t : BT Nd}, treeIn w t → ∀ k ∈ blocksT t, k < w.heap.size
  | .nil, _, _, hk => by cases hk
  | .node b o a l r, h, k, hk => by
    simp only [blocksT, List.mem_cons, List.mem_append] at hk
    rcases hk with rfl | hk | hk
    · exact lt_of_block h.1.2
    · exact treeIn.lt h.2.1 k hk
    · exact treeIn.lt h.2.2 k hk
/-- What 'no block twice' gives at a node. -/
theorem sep_node {b o : Nat} {a : Nd} {l r : BT Nd} (h : (blocksT (.node b o a l r)).Nodup) : b ∉ blocksT l ∧ b ∉ blocksT r ∧ (blocksT l).Nodup ∧ (blocksT r).Nodup ∧ ∀ k ∈ blocksT l, k ∉ blocksT r := by
  simp only [blocksT, List.nodup_cons, List.mem_append, not_or, List.nodup_append] at h
  exact ⟨h.1.1, h.1.2, h.2.1, h.2.2.1, fun k h1 h2 => h.2.2.2 k h1 k h2 rfl⟩
theorem turnR_blocks {b o : Nat} {a : Nd} {l r : BT Nd} (hl : l ≠ .nil) : (blocksT (turnR b a l r)).Perm (blocksT (.node b o a l r)) := by
  cases l with
  | nil => exact absurd rfl hl
  | node xb xo xa xl xr =>
    simp only [turnR, mkT, blocksT]
    refine (List.Perm.cons xb List.perm_middle).trans ?_
    refine (List.Perm.swap b xb _).trans (List.Perm.cons b (List.Perm.cons xb ?_))
    exact .of_eq (List.append_assoc ..).symm
theorem turnL_blocks {b o : Nat} {a : Nd} {l r : BT Nd} (hr : r ≠ .nil) : (blocksT (turnL b a l r)).Perm (blocksT (.node b o a l r)) := by
  cases r with
  | nil => exact absurd rfl hr
  | node xb xo xa xl xr =>
    simp only [turnL, mkT, blocksT, List.cons_append]
    refine (List.Perm.swap b xb _).trans (List.Perm.cons b ?_)
    rw [List.append_assoc]
    exact List.perm_middle.symm

set_option maxRecDepth 100000 in
set_option maxHeartbeats 2000000 in
theorem turnR_any (b : Nat) (a : Nd) (l r : BT Nd) (w : World) (hin : treeIn w (.node b 0 a l r)) (hsep : (blocksT (.node b 0 a l r)).Nodup) (hn : l ≠ .nil) (hl : FitT l) (hr : FitT r)
    (hc : (itemsT l).length + (itemsT r).length < 1099511627776) :
    Calls Try.prog 58 #[.pointer (some ⟨b, 0, none⟩)] w fun e w' => e = .returned (turnR b a l r).ptr ∧ treeIn w' (turnR b a l r) ∧ Fr (· ∈ blocksT (.node b 0 a l r)) w w' := by
  cases l with
  | nil => exact absurd rfl hn
  | node xb xo xa xl xr =>
    obtain ⟨⟨_, hb⟩, ⟨⟨rfl, hx⟩, hxl, hxr⟩, hrr⟩ := hin
    obtain ⟨n1, n2, n3, n4, n5⟩ := sep_node hsep
    obtain ⟨m1, m2, m3, m4, m5⟩ := sep_node n3
    have hbx : b ≠ xb := fun e => n1 (by simp [blocksT, e])
    have nbl : b ∉ blocksT xl := fun e => n1 (by simp [blocksT, e])
    have nbr : b ∉ blocksT xr := fun e => n1 (by simp [blocksT, e])
    have nxr : xb ∉ blocksT r := n5 xb (by simp [blocksT])
    have nlr : ∀ k ∈ blocksT xl, k ∉ blocksT r := fun k hk => n5 k (by simp [blocksT, hk])
    have nrr : ∀ k ∈ blocksT xr, k ∉ blocksT r := fun k hk => n5 k (by simp [blocksT, hk])
    have fl := hl.2.2.2.1
    have fr := hl.2.2.2.2
    have b1 := hi_nonneg fl
    have b2 := hi_nonneg fr
    have b3 := hi_nonneg hr
    have b4 := hi_le fl
    have b5 := hi_le fr
    have b6 := hi_le hr
    have hlen : (itemsT (.node xb 0 xa xl xr)).length = (itemsT xl).length + 1 + (itemsT xr).length := by simp [itemsT]; omega
    have hb' : w.heap[b]? = some (nodeO a (.pointer (some ⟨xb, 0, none⟩)) r.ptr) := hb
    clear hb n1 n3 n5 hsep
    obtain ⟨xlp, exl⟩ := ptr_some xl
    obtain ⟨xrp, exr⟩ := ptr_some xr
    obtain ⟨rp, er⟩ := ptr_some r
    rw [exl, exr] at hx
    rw [er] at hb'
    have EXL := Lib.hid exl
    have EXR := Lib.hid exr
    have ER := Lib.hid er
    have HLEN := Lib.hid hlen
    clear exl exr er hlen
    obtain ⟨_, _, _, _, _, c5, c6⟩ := node_cells hb'
    obtain ⟨_, _, _, _, _, d5, d6⟩ := node_cells hx
    have f5 := node_free hb' 5
    have g6 := node_free hx 6
    go_enter Try.func58, Try.ntmps58
    go_wp2_with fail
    obtain ⟨W1, hW1⟩ : ∃ W1, W1 = (w.setCell ⟨b, 5, none⟩ (.pointer xrp)).setCell ⟨xb, 6, none⟩ (.pointer (some ⟨b, 0, none⟩)) := ⟨_, rfl⟩
    rw [← hW1]
    have B1 : W1.heap[b]? = some (nodeO a xr.ptr r.ptr) := by rw [hW1, EXR.out, ER.out]; exact block_set_other (node_set5 hb' _) (p := ⟨xb, 6, none⟩) hbx _
    have X1 : W1.heap[xb]? = some (nodeO xa xl.ptr (.pointer (some ⟨b, 0, none⟩))) := by rw [hW1, EXL.out]; exact node_set6 (block_set_other hx (p := ⟨b, 5, none⟩) (fun e => hbx e.symm) _) _
    have F1 : Fr (fun k => k = b ∨ k = xb) w W1 := by rw [hW1]; exact Fr.setCell (F := fun k => k = b ∨ k = xb) (Fr.setCell (F := fun k => k = b ∨ k = xb) (Fr.refl _ w) (p := ⟨b, 5, none⟩) (fun _ => Or.inl rfl) _) (p := ⟨xb, 6, none⟩) (fun _ => Or.inr rfl) _
    clear hW1 c5 c6 d5 d6 f5 g6 hb' hx
    have T1l : treeIn W1 xl := treeIn.frame F1 hxl (fun k hk e => by rcases e with rfl | rfl; exact nbl hk; exact m1 hk)
    have T1r : treeIn W1 xr := treeIn.frame F1 hxr (fun k hk e => by rcases e with rfl | rfl; exact nbr hk; exact m2 hk)
    have T1 : treeIn W1 r := treeIn.frame F1 hrr (fun k hk e => by rcases e with rfl | rfl; exact n2 hk; exact nxr hk)
    refine (fit_any b a xr r W1 B1 T1r.root T1.root (fun h => nbr (rootB_sub h)) (fun h => n2 (rootB_sub h)) b2 (by rw [HLEN.out] at hc; omega) b3 (by omega)).mono ?_
    rintro e w2 ⟨rfl, B2, F2⟩
    have X2 := F2.keeps X1 (fun e => hbx e.symm)
    have T2l := treeIn.frame F2 T1l (fun k hk e => by subst e; exact nbl hk)
    have T2r := treeIn.frame F2 T1r (fun k hk e => by subst e; exact nbr hk)
    have T2 := treeIn.frame F2 T1 (fun k hk e => by subst e; exact n2 hk)
    have F2' := F1.next F2 (fun k _ e => Or.inl e)
    clear F1 F2 T1l T1r T1 B1 X1
    go_wp2_with fail
    have hm := fit_mk (b := b) (a := a) fr hr
    have hm2 := hi_le hm
    have hm1 := hi_nonneg hm
    rw [items_mk] at hm2
    simp only [List.length_append, List.length_cons] at hm2
    have HM := Lib.hid hm
    have hm3 : hiT (mkT b a xr r) < 4611686018427387904 := by rw [HLEN.out] at hc; omega
    clear hm hm2
    refine (fit_any xb xa xl (mkT b a xr r) w2 X2 T2l.root ⟨rfl, B2⟩ (fun h => m1 (rootB_sub h)) (fun h => hbx (by have h' : xb ∈ [b] := h; simp at h'; exact h'.symm)) b1 (by rw [HLEN.out] at hc; omega) hm1 hm3).mono ?_
    rintro e w3 ⟨rfl, B3, F3⟩
    have B2' := F3.keeps B2 hbx
    have T3l := treeIn.frame F3 T2l (fun k hk e => by subst e; exact m1 hk)
    have T3r := treeIn.frame F3 T2r (fun k hk e => by subst e; exact m2 hk)
    have T3 := treeIn.frame F3 T2 (fun k hk e => by subst e; exact nxr hk)
    have F3' := F2'.next F3 (fun k _ e => Or.inr e)
    go_wp2_with fail
    go_ret
    exact ⟨rfl, ⟨⟨rfl, B3⟩, T3l, ⟨rfl, B2'⟩, T3r, T3⟩, F3'.mono (fun k _ h => by rcases h with rfl | rfl <;> simp [blocksT])⟩

set_option maxRecDepth 100000 in
set_option maxHeartbeats 2000000 in
theorem turnL_any (b : Nat) (a : Nd) (l r : BT Nd) (w : World) (hin : treeIn w (.node b 0 a l r)) (hsep : (blocksT (.node b 0 a l r)).Nodup) (hn : r ≠ .nil) (hl : FitT l) (hr : FitT r)
    (hc : (itemsT l).length + (itemsT r).length < 1099511627776) :
    Calls Try.prog 57 #[.pointer (some ⟨b, 0, none⟩)] w fun e w' => e = .returned (turnL b a l r).ptr ∧ treeIn w' (turnL b a l r) ∧ Fr (· ∈ blocksT (.node b 0 a l r)) w w' := by
  cases r with
  | nil => exact absurd rfl hn
  | node xb xo xa xl xr =>
    obtain ⟨⟨_, hb⟩, hll, ⟨⟨rfl, hx⟩, hxl, hxr⟩⟩ := hin
    obtain ⟨n1, n2, n3, n4, n5⟩ := sep_node hsep
    obtain ⟨m1, m2, m3, m4, m5⟩ := sep_node n4
    have hbx : b ≠ xb := fun e => n2 (by simp [blocksT, e])
    have nbl : b ∉ blocksT xl := fun e => n2 (by simp [blocksT, e])
    have nbr : b ∉ blocksT xr := fun e => n2 (by simp [blocksT, e])
    have nxl : xb ∉ blocksT l := fun h => n5 xb h (by simp [blocksT])
    have fl := hr.2.2.2.1
    have fr := hr.2.2.2.2
    have b1 := hi_nonneg fl
    have b2 := hi_nonneg fr
    have b3 := hi_nonneg hl
    have b4 := hi_le fl
    have b5 := hi_le fr
    have b6 := hi_le hl
    have hlen : (itemsT (.node xb 0 xa xl xr)).length = (itemsT xl).length + 1 + (itemsT xr).length := by simp [itemsT]; omega
    have hb' : w.heap[b]? = some (nodeO a l.ptr (.pointer (some ⟨xb, 0, none⟩))) := hb
    clear hb n2 n4 n5 hsep
    obtain ⟨xlp, exl⟩ := ptr_some xl
    obtain ⟨xrp, exr⟩ := ptr_some xr
    obtain ⟨lp, el⟩ := ptr_some l
    rw [exl, exr] at hx
    rw [el] at hb'
    have EXL := Lib.hid exl
    have EXR := Lib.hid exr
    have EL := Lib.hid el
    have HLEN := Lib.hid hlen
    clear exl exr el hlen
    obtain ⟨_, _, _, _, _, c5, c6⟩ := node_cells hb'
    obtain ⟨_, _, _, _, _, d5, d6⟩ := node_cells hx
    have f6 := node_free hb' 6
    have g5 := node_free hx 5
    go_enter Try.func57, Try.ntmps57
    go_wp2_with fail
    obtain ⟨W1, hW1⟩ : ∃ W1, W1 = (w.setCell ⟨b, 6, none⟩ (.pointer xlp)).setCell ⟨xb, 5, none⟩ (.pointer (some ⟨b, 0, none⟩)) := ⟨_, rfl⟩
    rw [← hW1]
    have B1 : W1.heap[b]? = some (nodeO a l.ptr xl.ptr) := by rw [hW1, EXL.out, EL.out]; exact block_set_other (node_set6 hb' _) (p := ⟨xb, 5, none⟩) hbx _
    have X1 : W1.heap[xb]? = some (nodeO xa (.pointer (some ⟨b, 0, none⟩)) xr.ptr) := by rw [hW1, EXR.out]; exact node_set5 (block_set_other hx (p := ⟨b, 6, none⟩) (fun e => hbx e.symm) _) _
    have F1 : Fr (fun k => k = b ∨ k = xb) w W1 := by rw [hW1]; exact Fr.setCell (F := fun k => k = b ∨ k = xb) (Fr.setCell (F := fun k => k = b ∨ k = xb) (Fr.refl _ w) (p := ⟨b, 6, none⟩) (fun _ => Or.inl rfl) _) (p := ⟨xb, 5, none⟩) (fun _ => Or.inr rfl) _
    clear hW1 c5 c6 d5 d6 f6 g5 hb' hx
    have T1l : treeIn W1 xl := treeIn.frame F1 hxl (fun k hk e => by rcases e with rfl | rfl; exact nbl hk; exact m1 hk)
    have T1r : treeIn W1 xr := treeIn.frame F1 hxr (fun k hk e => by rcases e with rfl | rfl; exact nbr hk; exact m2 hk)
    have T1 : treeIn W1 l := treeIn.frame F1 hll (fun k hk e => by rcases e with rfl | rfl; exact n1 hk; exact nxl hk)
    refine (fit_any b a l xl W1 B1 T1.root T1l.root (fun h => n1 (rootB_sub h)) (fun h => nbl (rootB_sub h)) b3 (by omega) b1 (by rw [HLEN.out] at hc; omega)).mono ?_
    rintro e w2 ⟨rfl, B2, F2⟩
    have X2 := F2.keeps X1 (fun e => hbx e.symm)
    have T2l := treeIn.frame F2 T1l (fun k hk e => by subst e; exact nbl hk)
    have T2r := treeIn.frame F2 T1r (fun k hk e => by subst e; exact nbr hk)
    have T2 := treeIn.frame F2 T1 (fun k hk e => by subst e; exact n1 hk)
    have F2' := F1.next F2 (fun k _ e => Or.inl e)
    clear F1 F2 T1l T1r T1 B1 X1
    go_wp2_with fail
    have hm := fit_mk (b := b) (a := a) hl fl
    have hm2 := hi_le hm
    have hm1 := hi_nonneg hm
    rw [items_mk] at hm2
    simp only [List.length_append, List.length_cons] at hm2
    have HM := Lib.hid hm
    have hm3 : hiT (mkT b a l xl) < 4611686018427387904 := by rw [HLEN.out] at hc; omega
    clear hm hm2
    refine (fit_any xb xa (mkT b a l xl) xr w2 X2 ⟨rfl, B2⟩ T2r.root (fun h => hbx (by have h' : xb ∈ [b] := h; simp at h'; exact h'.symm)) (fun h => m2 (rootB_sub h)) hm1 hm3 b2 (by rw [HLEN.out] at hc; omega)).mono ?_
    rintro e w3 ⟨rfl, B3, F3⟩
    have B2' := F3.keeps B2 hbx
    have T3l := treeIn.frame F3 T2l (fun k hk e => by subst e; exact m1 hk)
    have T3r := treeIn.frame F3 T2r (fun k hk e => by subst e; exact m2 hk)
    have T3 := treeIn.frame F3 T2 (fun k hk e => by subst e; exact nxl hk)
    have F3' := F2'.next F3 (fun k _ e => Or.inr e)
    go_wp2_with fail
    go_ret
    exact ⟨rfl, ⟨⟨rfl, B3⟩, ⟨⟨rfl, B2'⟩, T3, T3l⟩, T3r⟩, F3'.mono (fun k _ h => by rcases h with rfl | rfl <;> simp [blocksT])⟩
end Go.Proofs.Ytcdgochkcfogiaa
