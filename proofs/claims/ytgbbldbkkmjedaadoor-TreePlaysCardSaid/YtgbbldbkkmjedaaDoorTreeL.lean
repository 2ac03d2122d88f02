/- A node is turned where one side is too high (level). -/
import Derived.Test.YtgbbldbkkmjedaaDoorTreeC
namespace Go.Proofs.YtgbbldbkkmjedaaDoor
open Go.RowKit Go.Deep

theorem upL_blocks {l : BT Nd} (h : FitT l) : (blocksT (upL l)).Perm (blocksT l) := by
  cases l with
  | nil => exact .refl _
  | node b o a xl xr =>
    unfold upL; dsimp only; split
    · rename_i hc
      have := hi_nonneg h.2.2.2.1
      exact turnL_blocks (ne_nil_of_hi (by omega))
    · exact .refl _
theorem upR_blocks {r : BT Nd} (h : FitT r) : (blocksT (upR r)).Perm (blocksT r) := by
  cases r with
  | nil => exact .refl _
  | node b o a xl xr =>
    unfold upR; dsimp only; split
    · rename_i hc
      have := hi_nonneg h.2.2.2.2
      exact turnR_blocks (ne_nil_of_hi (by omega))
    · exact .refl _
theorem node_blocks {b o o' : Nat} {a a' : Nd} {l r l' r' : BT Nd} (h1 : (blocksT l').Perm (blocksT l)) (h2 : (blocksT r').Perm (blocksT r)) : (blocksT (.node b o a l' r')).Perm (blocksT (.node b o' a' l r)) :=
  List.Perm.cons b (h1.append h2)
theorem level_blocks {b : Nat} {a : Nd} {l r : BT Nd} (hl : FitT l) (hr : FitT r) : (blocksT (levelT b a l r)).Perm (b :: (blocksT l ++ blocksT r)) := by
  unfold levelT
  have h1 := hi_nonneg hl
  have h2 := hi_nonneg hr
  split
  · exact (turnR_blocks (o := 0) (upL_ne hl (ne_nil_of_hi (by omega)))).trans (node_blocks (a' := a) (o' := 0) (upL_blocks hl) (.refl _))
  · split
    · exact (turnL_blocks (o := 0) (upR_ne hr (ne_nil_of_hi (by omega)))).trans (node_blocks (a' := a) (o' := 0) (.refl _) (upR_blocks hr))
    · exact .refl _

theorem S_level {w : World} {b : Nat} {a : Nd} {l r : BT Nd} {lp rp : Option Addr} (hb : w.heap[b]? = some (nodeO a (.pointer lp) (.pointer rp))) (hl : rootIn w l) (hr : rootIn w r) :
    w.cell? ⟨b, 5, none⟩ = some (.pointer lp) ∧ w.cell? ⟨b, 6, none⟩ = some (.pointer rp) ∧ rootIn w l ∧ rootIn w r := by
  obtain ⟨_, _, _, _, _, c5, c6⟩ := node_cells hb
  exact ⟨c5, c6, hl, hr⟩

set_option maxRecDepth 100000 in
set_option maxHeartbeats 4000000 in
theorem level_mid (b : Nat) (a : Nd) (l r : BT Nd) (w : World) (hin : treeIn w (.node b 0 a l r)) (hsep : (blocksT (.node b 0 a l r)).Nodup) (hl : FitT l) (hr : FitT r)
    (hc : (itemsT l).length + (itemsT r).length < 1099511627776) (h1 : hiT l - hiT r ≤ 1) (h2 : -1 ≤ hiT l - hiT r) :
    Calls Tryd.prog 90 #[.pointer (some ⟨b, 0, none⟩)] w fun e w' => e = .returned (.pointer (some ⟨b, 0, none⟩)) ∧ treeIn w' (mkT b a l r) ∧ Fr (· ∈ blocksT (.node b 0 a l r)) w w' := by
  obtain ⟨_, hb, hll, hrr⟩ := hin.parts
  obtain ⟨n1, n2, _, _, _⟩ := sep_node hsep
  have b1 := hi_nonneg hl
  have b2 := hi_nonneg hr
  have b3 := hi_le hl
  have b4 := hi_le hr
  obtain ⟨lp, el⟩ := ptr_some l
  obtain ⟨rp, er⟩ := ptr_some r
  have EL := Lib.hid el
  have ER := Lib.hid er
  clear el er hsep
  have hw : IntKind.i64.wrap (hiT l - hiT r) = hiT l - hiT r := by rw [IntKind.wrap_i64]; omega
  go_enter Tryd.func90, Tryd.ntmps90
  go_wp2_with fail
  refine (fit_any b a l r w hb hll.root hrr.root (fun h => n1 (rootB_sub h)) (fun h => n2 (rootB_sub h)) b1 (by omega) b2 (by omega)).mono ?_
  rintro e w1 ⟨rfl, B1, F1⟩
  have T1 : treeIn w1 l := treeIn.frame F1 hll (fun k hk e => by subst e; exact n1 hk)
  have T2 : treeIn w1 r := treeIn.frame F1 hrr (fun k hk e => by subst e; exact n2 hk)
  clear hb hll hrr
  rw [EL.out, ER.out] at B1
  go_wp2_with fail
  go_region_held3 (fun W => W.cell? ⟨b, 5, none⟩ = some (.pointer lp) ∧ W.cell? ⟨b, 6, none⟩ = some (.pointer rp) ∧ rootIn W l ∧ rootIn W r) (exact S_level B1 T1.root T2.root) ((go_at_call 59; first | ((with_reducible refine (high_at l lp _ EL.out ?_).mono ?_); exact T1.root; rintro e w' ⟨rfl, rfl⟩) | ((with_reducible refine (high_at r rp _ ER.out ?_).mono ?_); exact T2.root; rintro e w' ⟨rfl, rfl⟩)))
  clear hw
  go_wp2_with fail
  go_ret
  refine ⟨rfl, ⟨⟨rfl, ?_⟩, T1, T2⟩, Fr.drew (F1.mono fun k _ e => by simp [blocksT, e])⟩
  rw [EL.out, ER.out]
  exact B1

theorem S_level2 {w : World} {b lb : Nat} {a la : Nd} {x y : Value} {ll lr : BT Nd} {lp rp : Option Addr} (hb : w.heap[b]? = some (nodeO a x y)) (hx : w.heap[lb]? = some (nodeO la (.pointer lp) (.pointer rp))) (hl : rootIn w ll) (hr : rootIn w lr) :
    w.cell? ⟨b, 5, none⟩ = some x ∧ w.cell? ⟨b, 6, none⟩ = some y ∧ w.cell? ⟨lb, 5, none⟩ = some (.pointer lp) ∧ w.cell? ⟨lb, 6, none⟩ = some (.pointer rp) ∧ rootIn w ll ∧ rootIn w lr := by
  obtain ⟨_, _, _, _, _, c5, c6⟩ := node_cells hb
  obtain ⟨_, _, _, _, _, d5, d6⟩ := node_cells hx
  exact ⟨c5, c6, d5, d6, hl, hr⟩

set_option maxRecDepth 100000 in
set_option maxHeartbeats 4000000 in
theorem level_left (b lb : Nat) (a la : Nd) (ll lr r : BT Nd) (w : World) (hin : treeIn w (.node b 0 a (.node lb 0 la ll lr) r)) (hsep : (blocksT (.node b 0 a (.node lb 0 la ll lr) r)).Nodup) (hl : FitT (.node lb 0 la ll lr)) (hr : FitT r)
    (hc : (itemsT (.node lb 0 la ll lr)).length + (itemsT r).length < 1099511627776) (h1 : 1 < la.high - hiT r) :
    Calls Tryd.prog 90 #[.pointer (some ⟨b, 0, none⟩)] w fun e w' => e = .returned (turnR b (fitN a (.node lb 0 la ll lr) r) (upL (.node lb 0 la ll lr)) r).ptr ∧ treeIn w' (turnR b (fitN a (.node lb 0 la ll lr) r) (upL (.node lb 0 la ll lr)) r) ∧
      Fr (· ∈ blocksT (.node b 0 a (.node lb 0 la ll lr) r)) w w' := by
  obtain ⟨_, hb, hll, hrr⟩ := hin.parts
  obtain ⟨n1, n2, n3, n4, n5⟩ := sep_node hsep
  have b1 := hi_nonneg hl
  have b2 := hi_nonneg hr
  have b3 := hi_le hl
  have b4 := hi_le hr
  have k1 := hi_nonneg hl.2.2.2.1
  have k2 := hi_nonneg hl.2.2.2.2
  have hlc : (itemsT ll).length + (itemsT lr).length < 1099511627776 := by
    have : (itemsT (.node lb 0 la ll lr)).length = (itemsT ll).length + 1 + (itemsT lr).length := by simp [itemsT]; omega
    omega
  have eh : hiT (.node lb 0 la ll lr) = la.high := rfl
  rw [eh] at b1 b3
  have hw : IntKind.i64.wrap (la.high - hiT r) = la.high - hiT r := by rw [IntKind.wrap_i64]; omega
  have el : (BT.node lb 0 la ll lr).ptr = .pointer (some ⟨lb, 0, none⟩) := rfl
  obtain ⟨llp, ell⟩ := ptr_some ll
  obtain ⟨lrp, elr⟩ := ptr_some lr
  obtain ⟨rp, er⟩ := ptr_some r
  have EL := Lib.hid el
  have ELL := Lib.hid ell
  have ELR := Lib.hid elr
  have ER := Lib.hid er
  have EH := Lib.hid eh
  clear el er ell elr eh
  go_enter Tryd.func90, Tryd.ntmps90
  go_wp2_with fail
  refine (fit_any b a (.node lb 0 la ll lr) r w hb hll.root hrr.root (fun h => n1 (rootB_sub h)) (fun h => n2 (rootB_sub h)) (by rw [EH.out]; exact b1) (by rw [EH.out]; omega) b2 (by omega)).mono ?_
  rintro e w1 ⟨rfl, B1, F1⟩
  have T1 : treeIn w1 (.node lb 0 la ll lr) := treeIn.frame F1 hll (fun k hk e => by subst e; exact n1 hk)
  have T2 : treeIn w1 r := treeIn.frame F1 hrr (fun k hk e => by subst e; exact n2 hk)
  clear hb hll hrr
  obtain ⟨_, X1, TL, TR⟩ := T1.parts
  have X1' := X1
  rw [ELL.out, ELR.out] at X1'
  have B1' := B1
  rw [EL.out, ER.out] at B1
  have F1 : Fr (· ∈ blocksT (.node b 0 a (.node lb 0 la ll lr) r)) w w1 := F1.mono fun k _ e => by simp [blocksT, e]
  have HEQ : Hid (hiT (.node lb 0 la ll lr) = la.high) := EH
  have hig : ∀ W, rootIn W (.node lb 0 la ll lr) → Calls Tryd.prog 59 #[.pointer (some ⟨lb, 0, none⟩)] W fun e w' => e = .returned (.int .i64 la.high) ∧ w' = W := fun W h => high_at (.node lb 0 la ll lr) _ W rfl h
  have HIG := Lib.hid hig
  clear hig
  go_wp2_with fail
  go_region_held3 (fun W => W.cell? ⟨b, 5, none⟩ = some (.pointer (some ⟨lb, 0, none⟩)) ∧ W.cell? ⟨b, 6, none⟩ = some (.pointer rp) ∧ rootIn W (.node lb 0 la ll lr) ∧ rootIn W r) (exact S_level B1 T1.root T2.root) ((go_at_call 59; first | ((with_reducible refine (HIG.out _ ?_).mono ?_); exact T1.root; rintro e w' ⟨rfl, rfl⟩) | ((with_reducible refine (high_at r rp _ ER.out ?_).mono ?_); exact T2.root; rintro e w' ⟨rfl, rfl⟩)))
  clear hw HIG
  obtain ⟨w2, hw2⟩ : ∃ w2, w2 = w1.drew := ⟨_, rfl⟩
  rw [← hw2]
  have B2 : w2.heap[b]? = some (nodeO (fitN a (.node lb 0 la ll lr) r) (.pointer (some ⟨lb, 0, none⟩)) (.pointer rp)) := by rw [hw2]; exact B1
  have X2 : w2.heap[lb]? = some (nodeO la (.pointer llp) (.pointer lrp)) := by rw [hw2]; exact X1'
  have U1 : treeIn w2 (.node lb 0 la ll lr) := by rw [hw2]; exact T1
  have U2 : treeIn w2 r := by rw [hw2]; exact T2
  have TL : treeIn w2 ll := by rw [hw2]; exact TL
  have TR : treeIn w2 lr := by rw [hw2]; exact TR
  have F2 : Fr (· ∈ blocksT (.node b 0 a (.node lb 0 la ll lr) r)) w w2 := by rw [hw2]; exact F1.drew
  clear hw2 B1 B1' X1 X1' T1 T2 F1
  by_cases h2 : hiT ll < hiT lr
  · go_wp2_with fail
    go_region_held3 (fun W => W.cell? ⟨b, 5, none⟩ = some (.pointer (some ⟨lb, 0, none⟩)) ∧ W.cell? ⟨b, 6, none⟩ = some (.pointer rp) ∧ W.cell? ⟨lb, 5, none⟩ = some (.pointer llp) ∧ W.cell? ⟨lb, 6, none⟩ = some (.pointer lrp) ∧ rootIn W ll ∧ rootIn W lr) (exact S_level2 B2 X2 TL.root TR.root) ((go_at_call 59; first | ((with_reducible refine (high_at ll llp _ ELL.out ?_).mono ?_); exact TL.root; rintro e w' ⟨rfl, rfl⟩) | ((with_reducible refine (high_at lr lrp _ ELR.out ?_).mono ?_); exact TR.root; rintro e w' ⟨rfl, rfl⟩)))
    obtain ⟨_, _, _, _, _, c5, c6⟩ := node_cells B2
    go_wp2_with fail
    have hnr : lr ≠ .nil := ne_nil_of_hi (by omega)
    have e0 : upL (.node lb 0 la ll lr) = turnL lb la ll lr := by show (if hiT ll < hiT lr then _ else _) = _; rw [if_pos h2]
    have hperm : (blocksT (turnL lb la ll lr)).Perm (blocksT (.node lb 0 la ll lr)) := turnL_blocks hnr
    have htn : turnL lb la ll lr ≠ .nil := by rw [← e0]; exact upL_ne hl (by simp)
    have htf : FitT (turnL lb la ll lr) := turnL_fit hl.2.2.2.1 hl.2.2.2.2
    have hti : (itemsT (turnL lb la ll lr)).length = (itemsT (.node lb 0 la ll lr)).length := by rw [← e0, upL_items hl]
    have HT := Lib.hid (And.intro e0 (And.intro hperm (And.intro htn (And.intro htf hti))))
    obtain ⟨u, hu⟩ := ptr_some (turnL lb la ll lr)
    have HU := Lib.hid hu
    clear e0 hperm htn htf hti hu
    refine (turnL_any lb la ll lr w2.drew U1 n3 hnr hl.2.2.2.1 hl.2.2.2.2 hlc).mono ?_
    rintro e w3 ⟨rfl, T3, F3⟩
    rw [HU.out]
    have B3 := F3.keeps (b := b) B2 (fun h => n1 h)
    have U3 : treeIn w3 r := treeIn.frame F3 U2 (fun k hk e => n5 k e hk)
    have F3' := F2.drew.next F3 (fun k _ e => show k ∈ blocksT (.node b 0 a (.node lb 0 la ll lr) r) from List.mem_cons_of_mem _ (List.mem_append_left _ e))
    have f5 := node_free B3 5
    obtain ⟨_, _, _, _, _, c5', _⟩ := node_cells B3
    clear B2 X2 U1 U2 TL TR F2 c5 c6
    go_wp2_with fail
    have hnt : b ∉ blocksT (turnL lb la ll lr) := fun h => n1 (HT.out.2.1.mem_iff.1 h)
    have FS : Fr (· = b) w3 (w3.setCell ⟨b, 5, none⟩ (.pointer u)) := Fr.setCell (F := (· = b)) (Fr.refl _ w3) (p := ⟨b, 5, none⟩) (fun _ => rfl) _
    have T4 := treeIn.frame FS T3 (fun k hk e => by subst e; exact hnt hk)
    have U4 := treeIn.frame FS U3 (fun k hk e => by subst e; exact n2 hk)
    have B4 := node_set5 B3 (.pointer u)
    rw [← HU.out] at B4 T4 U4 ⊢
    rw [← ER.out] at B4
    refine (turnR_any b (fitN a (.node lb 0 la ll lr) r) (turnL lb la ll lr) r _ ⟨⟨rfl, B4⟩, T4, U4⟩ ((node_blocks (b := b) (o := 0) (o' := 0) (a := a) (a' := a) HT.out.2.1 (.refl _)).nodup_iff.2 hsep) HT.out.2.2.1 HT.out.2.2.2.1 hr (by rw [HT.out.2.2.2.2]; exact hc)).mono ?_
    rintro e w5 ⟨rfl, T5, F5⟩
    rw [HU.out] at F5
    have FF := (F3'.next FS (fun k _ e => show k ∈ blocksT (.node b 0 a (.node lb 0 la ll lr) r) from by simp [blocksT, e])).next F5 (fun k _ e => (node_blocks (b := b) (o := 0) (o' := 0) (a := a) (a' := a) HT.out.2.1 (.refl _)).mem_iff.1 e)
    go_wp2_with fail
    go_ret
    rw [HT.out.1]
    exact ⟨rfl, T5, FF⟩
  · go_wp2_with fail
    go_region_held3 (fun W => W.cell? ⟨b, 5, none⟩ = some (.pointer (some ⟨lb, 0, none⟩)) ∧ W.cell? ⟨b, 6, none⟩ = some (.pointer rp) ∧ W.cell? ⟨lb, 5, none⟩ = some (.pointer llp) ∧ W.cell? ⟨lb, 6, none⟩ = some (.pointer lrp) ∧ rootIn W ll ∧ rootIn W lr) (exact S_level2 B2 X2 TL.root TR.root) ((go_at_call 59; first | ((with_reducible refine (high_at ll llp _ ELL.out ?_).mono ?_); exact TL.root; rintro e w' ⟨rfl, rfl⟩) | ((with_reducible refine (high_at lr lrp _ ELR.out ?_).mono ?_); exact TR.root; rintro e w' ⟨rfl, rfl⟩)))
    go_wp2_with fail
    have e0 : upL (.node lb 0 la ll lr) = .node lb 0 la ll lr := by show (if hiT ll < hiT lr then _ else _) = _; rw [if_neg (by omega)]
    have E0 := Lib.hid e0
    clear e0
    refine (turnR_any b (fitN a (.node lb 0 la ll lr) r) (.node lb 0 la ll lr) r w2.drew ⟨⟨rfl, by rw [EL.out, ER.out]; exact B2⟩, U1, U2⟩ hsep (by simp) hl hr hc).mono ?_
    rintro e w3 ⟨rfl, T3, F3⟩
    have FF := F2.drew.next F3 (fun k _ e => e)
    go_wp2_with fail
    go_ret
    rw [E0.out]
    exact ⟨rfl, T3, FF⟩

set_option maxRecDepth 100000 in
set_option maxHeartbeats 4000000 in
theorem level_right (b rb : Nat) (a ra : Nd) (l rl rr : BT Nd) (w : World) (hin : treeIn w (.node b 0 a l (.node rb 0 ra rl rr))) (hsep : (blocksT (.node b 0 a l (.node rb 0 ra rl rr))).Nodup) (hl : FitT l) (hr : FitT (.node rb 0 ra rl rr))
    (hc : (itemsT l).length + (itemsT (.node rb 0 ra rl rr)).length < 1099511627776) (h1 : hiT l - ra.high < -1) :
    Calls Tryd.prog 90 #[.pointer (some ⟨b, 0, none⟩)] w fun e w' => e = .returned (turnL b (fitN a l (.node rb 0 ra rl rr)) l (upR (.node rb 0 ra rl rr))).ptr ∧ treeIn w' (turnL b (fitN a l (.node rb 0 ra rl rr)) l (upR (.node rb 0 ra rl rr))) ∧
      Fr (· ∈ blocksT (.node b 0 a l (.node rb 0 ra rl rr))) w w' := by
  obtain ⟨_, hb, hll, hrr⟩ := hin.parts
  obtain ⟨n1, n2, n3, n4, n5⟩ := sep_node hsep
  have b1 := hi_nonneg hl
  have b2 := hi_nonneg hr
  have b3 := hi_le hl
  have b4 := hi_le hr
  have k1 := hi_nonneg hr.2.2.2.1
  have k2 := hi_nonneg hr.2.2.2.2
  have hlc : (itemsT rl).length + (itemsT rr).length < 1099511627776 := by
    have : (itemsT (.node rb 0 ra rl rr)).length = (itemsT rl).length + 1 + (itemsT rr).length := by simp [itemsT]; omega
    omega
  have eh : hiT (.node rb 0 ra rl rr) = ra.high := rfl
  rw [eh] at b2 b4
  have hw : IntKind.i64.wrap (hiT l - ra.high) = hiT l - ra.high := by rw [IntKind.wrap_i64]; omega
  have er : (BT.node rb 0 ra rl rr).ptr = .pointer (some ⟨rb, 0, none⟩) := rfl
  obtain ⟨rlp, erl⟩ := ptr_some rl
  obtain ⟨rrp, err⟩ := ptr_some rr
  obtain ⟨lp, el⟩ := ptr_some l
  have EL := Lib.hid el
  have ERL := Lib.hid erl
  have ERR := Lib.hid err
  have ER := Lib.hid er
  have EH := Lib.hid eh
  clear el er erl err eh
  go_enter Tryd.func90, Tryd.ntmps90
  go_wp2_with fail
  refine (fit_any b a l (.node rb 0 ra rl rr) w hb hll.root hrr.root (fun h => n1 (rootB_sub h)) (fun h => n2 (rootB_sub h)) b1 (by omega) (by rw [EH.out]; exact b2) (by rw [EH.out]; omega)).mono ?_
  rintro e w1 ⟨rfl, B1, F1⟩
  have T1 : treeIn w1 l := treeIn.frame F1 hll (fun k hk e => by subst e; exact n1 hk)
  have T2 : treeIn w1 (.node rb 0 ra rl rr) := treeIn.frame F1 hrr (fun k hk e => by subst e; exact n2 hk)
  clear hb hll hrr
  obtain ⟨_, X1, TL, TR⟩ := T2.parts
  have X1' := X1
  rw [ERL.out, ERR.out] at X1'
  have B1' := B1
  rw [EL.out, ER.out] at B1
  have F1 : Fr (· ∈ blocksT (.node b 0 a l (.node rb 0 ra rl rr))) w w1 := F1.mono fun k _ e => by simp [blocksT, e]
  have hig : ∀ W, rootIn W (.node rb 0 ra rl rr) → Calls Tryd.prog 59 #[.pointer (some ⟨rb, 0, none⟩)] W fun e w' => e = .returned (.int .i64 ra.high) ∧ w' = W := fun W h => high_at (.node rb 0 ra rl rr) _ W rfl h
  have HIG := Lib.hid hig
  clear hig
  go_wp2_with fail
  go_region_held3 (fun W => W.cell? ⟨b, 5, none⟩ = some (.pointer lp) ∧ W.cell? ⟨b, 6, none⟩ = some (.pointer (some ⟨rb, 0, none⟩)) ∧ rootIn W l ∧ rootIn W (.node rb 0 ra rl rr)) (exact S_level B1 T1.root T2.root) ((go_at_call 59; first | ((with_reducible refine (HIG.out _ ?_).mono ?_); exact T2.root; rintro e w' ⟨rfl, rfl⟩) | ((with_reducible refine (high_at l lp _ EL.out ?_).mono ?_); exact T1.root; rintro e w' ⟨rfl, rfl⟩)))
  clear hw HIG
  obtain ⟨w2, hw2⟩ : ∃ w2, w2 = w1.drew := ⟨_, rfl⟩
  rw [← hw2]
  have B2 : w2.heap[b]? = some (nodeO (fitN a l (.node rb 0 ra rl rr)) (.pointer lp) (.pointer (some ⟨rb, 0, none⟩))) := by rw [hw2]; exact B1
  have X2 : w2.heap[rb]? = some (nodeO ra (.pointer rlp) (.pointer rrp)) := by rw [hw2]; exact X1'
  have U1 : treeIn w2 l := by rw [hw2]; exact T1
  have U2 : treeIn w2 (.node rb 0 ra rl rr) := by rw [hw2]; exact T2
  have TL : treeIn w2 rl := by rw [hw2]; exact TL
  have TR : treeIn w2 rr := by rw [hw2]; exact TR
  have F2 : Fr (· ∈ blocksT (.node b 0 a l (.node rb 0 ra rl rr))) w w2 := by rw [hw2]; exact F1.drew
  clear hw2 B1 B1' X1 X1' T1 T2 F1
  by_cases h2 : hiT rr < hiT rl
  · go_wp2_with fail
    go_region_held3 (fun W => W.cell? ⟨b, 5, none⟩ = some (.pointer lp) ∧ W.cell? ⟨b, 6, none⟩ = some (.pointer (some ⟨rb, 0, none⟩)) ∧ W.cell? ⟨rb, 5, none⟩ = some (.pointer rlp) ∧ W.cell? ⟨rb, 6, none⟩ = some (.pointer rrp) ∧ rootIn W rl ∧ rootIn W rr) (exact S_level2 B2 X2 TL.root TR.root) ((go_at_call 59; first | ((with_reducible refine (high_at rr rrp _ ERR.out ?_).mono ?_); exact TR.root; rintro e w' ⟨rfl, rfl⟩) | ((with_reducible refine (high_at rl rlp _ ERL.out ?_).mono ?_); exact TL.root; rintro e w' ⟨rfl, rfl⟩)))
    obtain ⟨_, _, _, _, _, c5, c6⟩ := node_cells B2
    go_wp2_with fail
    have hnr : rl ≠ .nil := ne_nil_of_hi (by omega)
    have e0 : upR (.node rb 0 ra rl rr) = turnR rb ra rl rr := by show (if hiT rr < hiT rl then _ else _) = _; rw [if_pos h2]
    have hperm : (blocksT (turnR rb ra rl rr)).Perm (blocksT (.node rb 0 ra rl rr)) := turnR_blocks hnr
    have htn : turnR rb ra rl rr ≠ .nil := by rw [← e0]; exact upR_ne hr (by simp)
    have htf : FitT (turnR rb ra rl rr) := turnR_fit hr.2.2.2.1 hr.2.2.2.2
    have hti : (itemsT (turnR rb ra rl rr)).length = (itemsT (.node rb 0 ra rl rr)).length := by rw [← e0, upR_items hr]
    have HT := Lib.hid (And.intro e0 (And.intro hperm (And.intro htn (And.intro htf hti))))
    obtain ⟨u, hu⟩ := ptr_some (turnR rb ra rl rr)
    have HU := Lib.hid hu
    clear e0 hperm htn htf hti hu
    refine (turnR_any rb ra rl rr w2.drew U2 n4 hnr hr.2.2.2.1 hr.2.2.2.2 hlc).mono ?_
    rintro e w3 ⟨rfl, T3, F3⟩
    rw [HU.out]
    have B3 := F3.keeps (b := b) B2 (fun h => n2 h)
    have U3 : treeIn w3 l := treeIn.frame F3 U1 (fun k hk e => n5 k hk e)
    have F3' := F2.drew.next F3 (fun k _ e => show k ∈ blocksT (.node b 0 a l (.node rb 0 ra rl rr)) from List.mem_cons_of_mem _ (List.mem_append_right _ e))
    have f6 := node_free B3 6
    obtain ⟨_, _, _, _, _, _, c6'⟩ := node_cells B3
    clear B2 X2 U1 U2 TL TR F2 c5 c6
    go_wp2_with fail
    have hnt : b ∉ blocksT (turnR rb ra rl rr) := fun h => n2 (HT.out.2.1.mem_iff.1 h)
    have FS : Fr (· = b) w3 (w3.setCell ⟨b, 6, none⟩ (.pointer u)) := Fr.setCell (F := (· = b)) (Fr.refl _ w3) (p := ⟨b, 6, none⟩) (fun _ => rfl) _
    have T4 := treeIn.frame FS T3 (fun k hk e => by subst e; exact hnt hk)
    have U4 := treeIn.frame FS U3 (fun k hk e => by subst e; exact n1 hk)
    have B4 := node_set6 B3 (.pointer u)
    rw [← HU.out] at B4 T4 U4 ⊢
    rw [← EL.out] at B4
    refine (turnL_any b (fitN a l (.node rb 0 ra rl rr)) l (turnR rb ra rl rr) _ ⟨⟨rfl, B4⟩, U4, T4⟩ ((node_blocks (b := b) (o := 0) (o' := 0) (a := a) (a' := a) (.refl _) HT.out.2.1).nodup_iff.2 hsep) HT.out.2.2.1 hl HT.out.2.2.2.1 (by rw [HT.out.2.2.2.2]; exact hc)).mono ?_
    rintro e w5 ⟨rfl, T5, F5⟩
    rw [HU.out] at F5
    have FF := (F3'.next FS (fun k _ e => show k ∈ blocksT (.node b 0 a l (.node rb 0 ra rl rr)) from by simp [blocksT, e])).next F5 (fun k _ e => (node_blocks (b := b) (o := 0) (o' := 0) (a := a) (a' := a) (.refl _) HT.out.2.1).mem_iff.1 e)
    go_wp2_with fail
    go_ret
    rw [HT.out.1]
    exact ⟨rfl, T5, FF⟩
  · go_wp2_with fail
    go_region_held3 (fun W => W.cell? ⟨b, 5, none⟩ = some (.pointer lp) ∧ W.cell? ⟨b, 6, none⟩ = some (.pointer (some ⟨rb, 0, none⟩)) ∧ W.cell? ⟨rb, 5, none⟩ = some (.pointer rlp) ∧ W.cell? ⟨rb, 6, none⟩ = some (.pointer rrp) ∧ rootIn W rl ∧ rootIn W rr) (exact S_level2 B2 X2 TL.root TR.root) ((go_at_call 59; first | ((with_reducible refine (high_at rr rrp _ ERR.out ?_).mono ?_); exact TR.root; rintro e w' ⟨rfl, rfl⟩) | ((with_reducible refine (high_at rl rlp _ ERL.out ?_).mono ?_); exact TL.root; rintro e w' ⟨rfl, rfl⟩)))
    go_wp2_with fail
    have e0 : upR (.node rb 0 ra rl rr) = .node rb 0 ra rl rr := by show (if hiT rr < hiT rl then _ else _) = _; rw [if_neg (by omega)]
    have E0 := Lib.hid e0
    clear e0
    refine (turnL_any b (fitN a l (.node rb 0 ra rl rr)) l (.node rb 0 ra rl rr) w2.drew ⟨⟨rfl, by rw [EL.out, ER.out]; exact B2⟩, U1, U2⟩ hsep (by simp) hl hr hc).mono ?_
    rintro e w3 ⟨rfl, T3, F3⟩
    have FF := F2.drew.next F3 (fun k _ e => e)
    go_wp2_with fail
    go_ret
    rw [E0.out]
    exact ⟨rfl, T3, FF⟩

theorem level_any (b : Nat) (a : Nd) (l r : BT Nd) (w : World) (hin : treeIn w (.node b 0 a l r)) (hsep : (blocksT (.node b 0 a l r)).Nodup) (hl : FitT l) (hr : FitT r)
    (hc : (itemsT l).length + (itemsT r).length < 1099511627776) :
    Calls Tryd.prog 90 #[.pointer (some ⟨b, 0, none⟩)] w fun e w' => e = .returned (levelT b a l r).ptr ∧ treeIn w' (levelT b a l r) ∧ Fr (· ∈ blocksT (.node b 0 a l r)) w w' := by
  have h1 := hi_nonneg hl
  have h2 := hi_nonneg hr
  unfold levelT
  by_cases k1 : 1 < hiT l - hiT r
  · rw [if_pos k1]
    cases l with
    | nil => exact absurd k1 (by show ¬ 1 < 0 - hiT r; omega)
    | node lb o la ll lr =>
      obtain rfl : o = 0 := hl.1
      exact level_left b lb a la ll lr r w hin hsep hl hr hc k1
  · rw [if_neg k1]
    by_cases k2 : hiT l - hiT r < -1
    · rw [if_pos k2]
      cases r with
      | nil => exact absurd k2 (by show ¬ hiT l - 0 < -1; omega)
      | node rb o ra rl rr =>
        obtain rfl : o = 0 := hr.1
        exact level_right b rb a ra l rl rr w hin hsep hl hr hc k2
    · rw [if_neg k2]
      exact level_mid b a l r w hin hsep hl hr hc (by omega) (by omega)
end Go.Proofs.YtgbbldbkkmjedaaDoor
