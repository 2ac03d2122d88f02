/- A node is turned where one side is too high (level). -/
import Derived.Deep.RegionHeld3
import Derived.Deep.QuietTactic
import Derived.BigQuiet
import Derived.StillTailTactics
import Derived.Test.YtacedfcckkpciaaGreatDoorFrameK
import Derived.Test.YtacedfcckkpciaaGreatDoorTreeNK
namespace Go.Proofs.YtacedfcckkpciaaGreatDoor
open Go.RowKit Go.Deep

def nodeO (a : Nd) (l r : Value) : Obj := .cells #[.int .i64 a.id, .int .i64 a.f, .int .i64 a.t, .int .i64 a.last, .int .i64 a.high, l, r] 145 (0, 0)
/-- A tree's root lies there. -/
def rootInH (h : Array Obj) : BT Nd → Prop
  | .nil => True
  | .node b o a l r => o = 0 ∧ h[b]? = some (nodeO a l.ptr r.ptr)
def rootIn (w : World) (t : BT Nd) : Prop := rootInH w.heap t
/-- A tree lies there. -/
def treeInH (h : Array Obj) : BT Nd → Prop
  | .nil => True
  | .node b o a l r => (o = 0 ∧ h[b]? = some (nodeO a l.ptr r.ptr)) ∧ treeInH h l ∧ treeInH h r
def treeIn (w : World) (t : BT Nd) : Prop := treeInH w.heap t
theorem treeIn.parts {w : World} {b o : Nat} {a : Nd} {l r : BT Nd} (h : treeIn w (.node b o a l r)) : o = 0 ∧ w.heap[b]? = some (nodeO a l.ptr r.ptr) ∧ treeIn w l ∧ treeIn w r := ⟨h.1.1, h.1.2, h.2.1, h.2.2⟩
theorem treeIn.root {w : World} {t : BT Nd} (h : treeIn w t) : rootIn w t := by cases t; trivial; exact h.1
def rootB : BT Nd → List Nat
  | .nil => []
  | .node b _ _ _ _ => [b]

/-- A node's cells, and that they may be written. -/
theorem node_cells {w : World} {b : Nat} {a : Nd} {l r : Value} (h : w.heap[b]? = some (nodeO a l r)) :
    w.cell? ⟨b, 0, none⟩ = some (.int .i64 a.id) ∧ w.cell? ⟨b, 1, none⟩ = some (.int .i64 a.f) ∧ w.cell? ⟨b, 2, none⟩ = some (.int .i64 a.t) ∧ w.cell? ⟨b, 3, none⟩ = some (.int .i64 a.last) ∧
    w.cell? ⟨b, 4, none⟩ = some (.int .i64 a.high) ∧ w.cell? ⟨b, 5, none⟩ = some l ∧ w.cell? ⟨b, 6, none⟩ = some r :=
  ⟨block_cell h 0, block_cell h 1, block_cell h 2, block_cell h 3, block_cell h 4, block_cell h 5, block_cell h 6⟩
theorem node_free {w : World} {b : Nat} {a : Nd} {l r : Value} (h : w.heap[b]? = some (nodeO a l r)) (i : Nat) : w.frozen? ⟨b, i, none⟩ = false := block_free h i

set_option maxRecDepth 100000 in
theorem high_any (t : BT Nd) (w : World) (h : rootIn w t) : Calls Tryz.prog 168 #[t.ptr] w fun e w' => e = .returned (.int .i64 (hiT t)) ∧ w' = w := by
  cases t with
  | nil =>
    have e : (BT.nil : BT Nd).ptr = .pointer none := rfl
    rw [e]
    go_enter Tryz.func168, Tryz.ntmps168
    go_wp2
    go_ret
    exact ⟨rfl, rfl⟩
  | node b o a l r =>
    obtain ⟨rfl, hb⟩ := h
    obtain ⟨_, _, _, _, c4, _, _⟩ := node_cells hb
    have e : (BT.node b 0 a l r).ptr = .pointer (some ⟨b, 0, none⟩) := rfl
    rw [e]
    clear hb
    go_enter Tryz.func168, Tryz.ntmps168
    go_wp2
    go_ret
    exact ⟨rfl, rfl⟩
theorem ptr_some (t : BT Nd) : ∃ p, t.ptr = .pointer p := by cases t; exact ⟨_, rfl⟩; exact ⟨_, rfl⟩
theorem high_at (t : BT Nd) (p : Option Addr) (w : World) (e : t.ptr = .pointer p) (h : rootIn w t) : Calls Tryz.prog 168 #[.pointer p] w fun e w' => e = .returned (.int .i64 (hiT t)) ∧ w' = w := by
  rw [← e]; exact high_any t w h
end Go.Proofs.YtacedfcckkpciaaGreatDoor
namespace Go.Proofs.YtacedfcckkpciaaGreatDoor
open Go.RowKit Go.Deep

theorem rootIn.frame {F : Nat → Prop} {w w' : World} {t : BT Nd} (h : rootIn w t) (hf : Fr F w w') (hn : ∀ k ∈ rootB t, ¬ F k) : rootIn w' t := by
  cases t with
  | nil => trivial
  | node b o a l r => exact ⟨h.1, hf.keeps h.2 (hn b (by simp [rootB]))⟩
theorem rootIn.setCell {w : World} {t : BT Nd} (h : rootIn w t) {p : Addr} (hn : p.block ∉ rootB t) (v : Value) : rootIn (w.setCell p v) t := by
  cases t with
  | nil => trivial
  | node b o a l r => exact ⟨h.1, block_set_other h.2 (fun e => hn (by simp [rootB, e])) v⟩
theorem rootIn.drew {w : World} {t : BT Nd} (h : rootIn w t) : rootIn w.drew t := by
  cases t with
  | nil => trivial
  | node b o a l r => exact h
/-- What the loop over both sides makes of the latest end. -/
theorem nodeO_set3 (a : Nd) (l r : Value) (v : Int) : nodeO { a with last := v } l r = .cells #[.int .i64 a.id, .int .i64 a.f, .int .i64 a.t, .int .i64 v, .int .i64 a.high, l, r] 145 (0, 0) := rfl
theorem node_set3 {w : World} {b : Nat} {a : Nd} {l r : Value} (h : w.heap[b]? = some (nodeO a l r)) (v : Int) : (w.setCell ⟨b, 3, none⟩ (.int .i64 v)).heap[b]? = some (nodeO { a with last := v } l r) := block_set h 3 _
theorem node_set4 {w : World} {b : Nat} {a : Nd} {l r : Value} (h : w.heap[b]? = some (nodeO a l r)) (v : Int) : (w.setCell ⟨b, 4, none⟩ (.int .i64 v)).heap[b]? = some (nodeO { a with high := v } l r) := block_set h 4 _
theorem node_set5 {w : World} {b : Nat} {a : Nd} {l r : Value} (h : w.heap[b]? = some (nodeO a l r)) (v : Value) : (w.setCell ⟨b, 5, none⟩ v).heap[b]? = some (nodeO a v r) := block_set h 5 _
theorem node_set6 {w : World} {b : Nat} {a : Nd} {l r : Value} (h : w.heap[b]? = some (nodeO a l r)) (v : Value) : (w.setCell ⟨b, 6, none⟩ v).heap[b]? = some (nodeO a l v) := block_set h 6 _

theorem S_fit_keep {W : World} {b : Nat} {a : Nd} {l r : BT Nd} {lp rp : Option Addr} (h : W.cell? ⟨b, 2, none⟩ = some (.int .i64 a.t) ∧ W.cell? ⟨b, 5, none⟩ = some (.pointer lp) ∧ W.cell? ⟨b, 6, none⟩ = some (.pointer rp) ∧ rootIn W l ∧ rootIn W r)
    (nl : b ∉ rootB l) (nr : b ∉ rootB r) (i : Nat) (hi : i = 3 ∨ i = 4) (v : Value) :
    (W.setCell ⟨b, i, none⟩ v).cell? ⟨b, 2, none⟩ = some (.int .i64 a.t) ∧ (W.setCell ⟨b, i, none⟩ v).cell? ⟨b, 5, none⟩ = some (.pointer lp) ∧ (W.setCell ⟨b, i, none⟩ v).cell? ⟨b, 6, none⟩ = some (.pointer rp) ∧ rootIn (W.setCell ⟨b, i, none⟩ v) l ∧ rootIn (W.setCell ⟨b, i, none⟩ v) r := by
  obtain ⟨h1, h2, h3, h4, h5⟩ := h
  have e : ∀ j, j ≠ i → (W.setCell ⟨b, i, none⟩ v).cell? ⟨b, j, none⟩ = W.cell? ⟨b, j, none⟩ := fun j hj => World.cell?_setCell_other _ _ _ _ (fun e => hj (congrArg Addr.off e).symm)
  exact ⟨(e 2 (by omega)).trans h1, (e 5 (by omega)).trans h2, (e 6 (by omega)).trans h3, h4.setCell nl v, h5.setCell nr v⟩
/-- What the latest end is, round by round. -/
def stg (t : Int) (l r : BT Nd) : Nat → Int
  | 0 => t
  | 1 => laT t l
  | _ => laT (laT t l) r
theorem rootIn_some {w : World} {t : BT Nd} {x : Addr} (h : rootIn w t) (e : t.ptr = .pointer (some x)) : ∃ (b : Nat) (a : Nd) (l r : BT Nd), t = .node b 0 a l r ∧ x = ⟨b, 0, none⟩ ∧ w.heap[b]? = some (nodeO a l.ptr r.ptr) := by
  cases t with
  | nil => cases e
  | node b o a l r => obtain ⟨rfl, h⟩ := h; cases e; exact ⟨b, a, l, r, rfl, rfl, h⟩
theorem la_none {t : BT Nd} {d : Int} (e : t.ptr = .pointer none) : laT d t = d := by cases t; rfl; cases e
/-- What is shown of every round. -/
def FitAt (w : World) (b : Nat) (a : Nd) (v : Int) (lp rp : Option Addr) (wr : World) : Prop := wr.heap[b]? = some (nodeO { a with last := v } (.pointer lp) (.pointer rp)) ∧ Fr (· = b) w wr

set_option maxRecDepth 100000 in
set_option maxHeartbeats 4000000 in
theorem fit_any (b : Nat) (a : Nd) (l r : BT Nd) (w : World) (hb : w.heap[b]? = some (nodeO a l.ptr r.ptr)) (hl : rootIn w l) (hr : rootIn w r) (nl : b ∉ rootB l) (nr : b ∉ rootB r)
    (l0 : 0 ≤ hiT l) (l1 : hiT l < 4611686018427387904) (r0 : 0 ≤ hiT r) (r1 : hiT r < 4611686018427387904) :
    Calls Tryz.prog 167 #[.pointer (some ⟨b, 0, none⟩)] w fun e w' => e = .returned (.pointer (some ⟨b, 0, none⟩)) ∧ w'.heap[b]? = some (nodeO (fitN a l r) l.ptr r.ptr) ∧ Fr (· = b) w w' := by
  obtain ⟨lp, el⟩ := ptr_some l
  obtain ⟨rp, er⟩ := ptr_some r
  rw [el, er] at hb ⊢
  have EL := Lib.hid el
  have ER := Lib.hid er
  clear el er
  obtain ⟨c0, c1, c2, c3, c4, c5, c6⟩ := node_cells hb
  have f3 := node_free hb 3
  have f4 := node_free hb 4
  have hh : IntKind.i64.wrap (1 + imax (hiT l) (hiT r)) = 1 + max (hiT l) (hiT r) := by
    rw [show imax (hiT l) (hiT r) = max (hiT l) (hiT r) from rfl, IntKind.wrap_i64]; omega
  have HH := Lib.hid hh
  clear hh
  have i0 : ∀ w, (Instr.index 286 (.agg #[.pointer lp, .pointer rp]) (.int .i64 0)).run Tryz.prog w = .ok (.pointer lp) w := fun _ => by kernel_rfl
  have i1 : ∀ w, (Instr.index 286 (.agg #[.pointer lp, .pointer rp]) (.int .i64 1)).run Tryz.prog w = .ok (.pointer rp) w := fun _ => by kernel_rfl
  go_enter Tryz.func167, Tryz.ntmps167
  go_wp2
  go_region_held3 (fun W => W.cell? ⟨b, 2, none⟩ = some (.int .i64 a.t) ∧ W.cell? ⟨b, 5, none⟩ = some (.pointer lp) ∧ W.cell? ⟨b, 6, none⟩ = some (.pointer rp) ∧ rootIn W l ∧ rootIn W r) (first | exact ⟨c2, c5, c6, hl, hr⟩ | assumption | exact S_fit_keep (W := w) ⟨c2, c5, c6, hl, hr⟩ nl nr 4 (Or.inr rfl) _ | exact S_fit_keep (S_fit_keep (W := w) ⟨c2, c5, c6, hl, hr⟩ nl nr 4 (Or.inr rfl) _) nl nr 3 (Or.inl rfl) _) ((go_at_call 168; first | ((with_reducible refine (high_at l lp _ EL.out ?_).mono ?_); exact hl; rintro e w' ⟨rfl, rfl⟩) | ((with_reducible refine (high_at r rp _ ER.out ?_).mono ?_); exact hr; rintro e w' ⟨rfl, rfl⟩)))
  obtain ⟨W1, hW1⟩ : ∃ W1, W1 = ((w.setCell ⟨b, 4, none⟩ (.int .i64 (IntKind.i64.wrap (1 + imax (hiT l) (hiT r))))).setCell ⟨b, 3, none⟩ (.int .i64 a.t)).drew := ⟨_, rfl⟩
  rw [← hW1]
  have B1 : W1.heap[b]? = some (nodeO { a with high := 1 + max (hiT l) (hiT r), last := stg a.t l r 0 } (.pointer lp) (.pointer rp)) := by rw [hW1, ← HH.out]; exact node_set3 (node_set4 hb _) _
  have F1 : Fr (· = b) w W1 := by rw [hW1]; exact Fr.drew (Fr.setCell (F := (· = b)) (Fr.setCell (F := (· = b)) (Fr.refl _ w) (p := ⟨b, 4, none⟩) (fun _ => rfl) _) (p := ⟨b, 3, none⟩) (fun _ => rfl) _)
  have hl := hl.frame F1 (fun k hk e => nl (by rw [← e]; exact hk))
  have hr := hr.frame F1 (fun k hk e => nr (by rw [← e]; exact hk))
  clear hW1 c0 c1 c2 c3 c4 c5 c6 f3 f4 hb
  obtain ⟨_, _, _, _, _, c5, c6⟩ := node_cells B1
  clear HH
  go_wp2
  go_region_held3 (fun W => W.cell? ⟨b, 5, none⟩ = some (.pointer lp) ∧ W.cell? ⟨b, 6, none⟩ = some (.pointer rp)) (exact ⟨c5, c6⟩) (fail)
  obtain ⟨W2, hW2⟩ : ∃ W2, W2 = W1.drew := ⟨_, rfl⟩
  rw [← hW2]
  have B2 : FitAt w b { a with high := 1 + max (hiT l) (hiT r) } (stg a.t l r 0) lp rp W2 := by rw [hW2]; exact ⟨B1, F1.drew⟩
  have hl : rootIn W2 l := by rw [hW2]; exact hl
  have hr : rootIn W2 r := by rw [hW2]; exact hr
  clear hW2 B1 F1 c5 c6
  go_wp2
  go_loopw [37] (fun i wr => ∃ k : Nat, k ≤ 2 ∧ i = .int .i64 k ∧ FitAt w b { a with high := 1 + max (hiT l) (hiT r) } (stg a.t l r k) lp rp wr ∧ Fr (· = b) W2 wr) (fun i _ => 2 - (intOf i).toNat)
  case atStart => exact ⟨0, by omega, rfl, B2, Fr.refl _ _⟩
  case round =>
    obtain ⟨k, hk, rfl, hF, hF2⟩ := hrel
    obtain ⟨hB, hFr⟩ := hF
    have hl := hl.frame hF2 (fun k hk e => nl (by rw [← e]; exact hk))
    have hr := hr.frame hF2 (fun k hk e => nr (by rw [← e]; exact hk))
    obtain ⟨_, _, _, d3, _, _, _⟩ := node_cells hB
    have g3 := node_free hB 3
    match k, hk with
    | 0, _ =>
      rcases lp with _ | x
      · have e1 : stg a.t l r 1 = stg a.t l r 0 := la_none EL.out
        go_wp2
        exact ⟨⟨1, by omega, rfl, by rw [e1]; exact ⟨hB, hFr⟩, hF2⟩, by simp [intOf]⟩
      · obtain ⟨sb, sa, sl, sr, e1, rfl, hs⟩ := rootIn_some hl EL.out
        obtain ⟨_, _, _, s3, _, _, _⟩ := node_cells hs
        have e2 : stg a.t l r 1 = max (stg a.t l r 0) sa.last := by show laT _ l = _; rw [e1]; rfl
        have E2 := Lib.hid e2
        clear e1 e2
        go_wp2
        go_region
        go_wp2
        refine ⟨⟨1, by omega, rfl, ⟨?_, ?_⟩, ?_⟩, by simp [intOf]⟩
        · rw [E2.out]; exact node_set3 hB _
        · exact Fr.drew (Fr.setCell (F := (· = b)) hFr (p := ⟨b, 3, none⟩) (fun _ => rfl) _)
        · exact Fr.drew (Fr.setCell (F := (· = b)) hF2 (p := ⟨b, 3, none⟩) (fun _ => rfl) _)
    | 1, _ =>
      rcases rp with _ | x
      · have e1 : stg a.t l r 2 = stg a.t l r 1 := la_none ER.out
        go_wp2
        exact ⟨⟨2, by omega, rfl, by rw [e1]; exact ⟨hB, hFr⟩, hF2⟩, by simp [intOf]⟩
      · obtain ⟨sb, sa, sl, sr, e1, rfl, hs⟩ := rootIn_some hr ER.out
        obtain ⟨_, _, _, s3, _, _, _⟩ := node_cells hs
        have e2 : stg a.t l r 2 = max (stg a.t l r 1) sa.last := by show laT _ r = _; rw [e1]; rfl
        have E2 := Lib.hid e2
        clear e1 e2
        go_wp2
        go_region
        go_wp2
        refine ⟨⟨2, by omega, rfl, ⟨?_, ?_⟩, ?_⟩, by simp [intOf]⟩
        · rw [E2.out]; exact node_set3 hB _
        · exact Fr.drew (Fr.setCell (F := (· = b)) hFr (p := ⟨b, 3, none⟩) (fun _ => rfl) _)
        · exact Fr.drew (Fr.setCell (F := (· = b)) hF2 (p := ⟨b, 3, none⟩) (fun _ => rfl) _)
    | 2, _ =>
      go_wp2
      go_ret
      exact ⟨rfl, hB, hFr⟩
end Go.Proofs.YtacedfcckkpciaaGreatDoor
namespace Go.Proofs.YtacedfcckkpciaaGreatDoor
open Go.RowKit Go.Deep

theorem treeIn.frame {F : Nat → Prop} {w w' : World} (hf : Fr F w w') : ∀ {t : BT Nd}, treeIn w t → (∀ k ∈ blocksT t, ¬ F k) → treeIn w' t
  | .nil, _, _ => trivial
  | .node b o a l r, h, hn => ⟨⟨h.1.1, hf.keeps h.1.2 (hn b (by simp [blocksT]))⟩, treeIn.frame hf h.2.1 (fun k hk => hn k (by simp [blocksT, hk])), treeIn.frame hf h.2.2 (fun k hk => hn k (by simp [blocksT, hk]))⟩
theorem rootB_sub {t : BT Nd} {k : Nat} (h : k ∈ rootB t) : k ∈ blocksT t := by
  cases t with
  | nil => cases h
  | node b o a l r => simp [rootB] at h; simp [blocksT, h]
theorem treeIn.lt {w : World} : ∀ {t : BT Nd}, treeIn w t → ∀ k ∈ blocksT t, k < w.heap.size
  | .nil, _, _, hk => by cases hk
  | .node b o a l r, h, k, hk => by
    simp only [blocksT, List.mem_cons, List.mem_append] at hk
    rcases hk with rfl | hk | hk
    · exact lt_of_block h.1.2
    · exact treeIn.lt h.2.1 k hk
    · exact treeIn.lt h.2.2 k hk
/-- What 'no block twice' gives at a node. -/
theorem sep_node {b o : Nat} {a : Nd} {l r : BT Nd} (h : (blocksT (.node b o a l r)).Nodup) : b ∉ blocksT l ∧ b ∉ blocksT r ∧ (blocksT l).Nodup ∧ (blocksT r).Nodup ∧ ∀ k ∈ blocksT l, k ∉ blocksT r := by
  simp only [blocksT, List.nodup_cons, List.mem_append, not_or, List.nodup_append] at h
  exact ⟨h.1.1, h.1.2, h.2.1, h.2.2.1, fun k h1 h2 => h.2.2.2 k h1 k h2 rfl⟩
theorem turnR_blocks {b o : Nat} {a : Nd} {l r : BT Nd} (hl : l ≠ .nil) : (blocksT (turnR b a l r)).Perm (blocksT (.node b o a l r)) := by
  cases l with
  | nil => exact absurd rfl hl
  | node xb xo xa xl xr =>
    simp only [turnR, mkT, blocksT]
    refine (List.Perm.cons xb List.perm_middle).trans ?_
    refine (List.Perm.swap b xb _).trans (List.Perm.cons b (List.Perm.cons xb ?_))
    exact .of_eq (List.append_assoc ..).symm
theorem turnL_blocks {b o : Nat} {a : Nd} {l r : BT Nd} (hr : r ≠ .nil) : (blocksT (turnL b a l r)).Perm (blocksT (.node b o a l r)) := by
  cases r with
  | nil => exact absurd rfl hr
  | node xb xo xa xl xr =>
    simp only [turnL, mkT, blocksT, List.cons_append]
    refine (List.Perm.swap b xb _).trans (List.Perm.cons b ?_)
    rw [List.append_assoc]
    exact List.perm_middle.symm

set_option maxRecDepth 100000 in
set_option maxHeartbeats 2000000 in
theorem turnR_any (b : Nat) (a : Nd) (l r : BT Nd) (w : World) (hin : treeIn w (.node b 0 a l r)) (hsep : (blocksT (.node b 0 a l r)).Nodup) (hn : l ≠ .nil) (hl : FitT l) (hr : FitT r)
    (hc : (itemsT l).length + (itemsT r).length < 1099511627776) :
    Calls Tryz.prog 170 #[.pointer (some ⟨b, 0, none⟩)] w fun e w' => e = .returned (turnR b a l r).ptr ∧ treeIn w' (turnR b a l r) ∧ Fr (· ∈ blocksT (.node b 0 a l r)) w w' := by
  cases l with
  | nil => exact absurd rfl hn
  | node xb xo xa xl xr =>
    obtain ⟨⟨_, hb⟩, ⟨⟨rfl, hx⟩, hxl, hxr⟩, hrr⟩ := hin
    obtain ⟨n1, n2, n3, n4, n5⟩ := sep_node hsep
    obtain ⟨m1, m2, m3, m4, m5⟩ := sep_node n3
    have hbx : b ≠ xb := fun e => n1 (by simp [blocksT, e])
    have nbl : b ∉ blocksT xl := fun e => n1 (by simp [blocksT, e])
    have nbr : b ∉ blocksT xr := fun e => n1 (by simp [blocksT, e])
    have nxr : xb ∉ blocksT r := n5 xb (by simp [blocksT])
    have nlr : ∀ k ∈ blocksT xl, k ∉ blocksT r := fun k hk => n5 k (by simp [blocksT, hk])
    have nrr : ∀ k ∈ blocksT xr, k ∉ blocksT r := fun k hk => n5 k (by simp [blocksT, hk])
    have fl := hl.2.2.2.1
    have fr := hl.2.2.2.2
    have b1 := hi_nonneg fl
    have b2 := hi_nonneg fr
    have b3 := hi_nonneg hr
    have b4 := hi_le fl
    have b5 := hi_le fr
    have b6 := hi_le hr
    have hlen : (itemsT (.node xb 0 xa xl xr)).length = (itemsT xl).length + 1 + (itemsT xr).length := by simp [itemsT]; omega
    have hb' : w.heap[b]? = some (nodeO a (.pointer (some ⟨xb, 0, none⟩)) r.ptr) := hb
    clear hb n1 n3 n5 hsep
    obtain ⟨xlp, exl⟩ := ptr_some xl
    obtain ⟨xrp, exr⟩ := ptr_some xr
    obtain ⟨rp, er⟩ := ptr_some r
    rw [exl, exr] at hx
    rw [er] at hb'
    have EXL := Lib.hid exl
    have EXR := Lib.hid exr
    have ER := Lib.hid er
    have HLEN := Lib.hid hlen
    clear exl exr er hlen
    obtain ⟨_, _, _, _, _, c5, c6⟩ := node_cells hb'
    obtain ⟨_, _, _, _, _, d5, d6⟩ := node_cells hx
    have f5 := node_free hb' 5
    have g6 := node_free hx 6
    go_enter Tryz.func170, Tryz.ntmps170
    go_wp2_with fail
    obtain ⟨W1, hW1⟩ : ∃ W1, W1 = (w.setCell ⟨b, 5, none⟩ (.pointer xrp)).setCell ⟨xb, 6, none⟩ (.pointer (some ⟨b, 0, none⟩)) := ⟨_, rfl⟩
    rw [← hW1]
    have B1 : W1.heap[b]? = some (nodeO a xr.ptr r.ptr) := by rw [hW1, EXR.out, ER.out]; exact block_set_other (node_set5 hb' _) (p := ⟨xb, 6, none⟩) hbx _
    have X1 : W1.heap[xb]? = some (nodeO xa xl.ptr (.pointer (some ⟨b, 0, none⟩))) := by rw [hW1, EXL.out]; exact node_set6 (block_set_other hx (p := ⟨b, 5, none⟩) (fun e => hbx e.symm) _) _
    have F1 : Fr (fun k => k = b ∨ k = xb) w W1 := by rw [hW1]; exact Fr.setCell (F := fun k => k = b ∨ k = xb) (Fr.setCell (F := fun k => k = b ∨ k = xb) (Fr.refl _ w) (p := ⟨b, 5, none⟩) (fun _ => Or.inl rfl) _) (p := ⟨xb, 6, none⟩) (fun _ => Or.inr rfl) _
    clear hW1 c5 c6 d5 d6 f5 g6 hb' hx
    have T1l : treeIn W1 xl := treeIn.frame F1 hxl (fun k hk e => by rcases e with rfl | rfl; exact nbl hk; exact m1 hk)
    have T1r : treeIn W1 xr := treeIn.frame F1 hxr (fun k hk e => by rcases e with rfl | rfl; exact nbr hk; exact m2 hk)
    have T1 : treeIn W1 r := treeIn.frame F1 hrr (fun k hk e => by rcases e with rfl | rfl; exact n2 hk; exact nxr hk)
    refine (fit_any b a xr r W1 B1 T1r.root T1.root (fun h => nbr (rootB_sub h)) (fun h => n2 (rootB_sub h)) b2 (by rw [HLEN.out] at hc; omega) b3 (by omega)).mono ?_
    rintro e w2 ⟨rfl, B2, F2⟩
    have X2 := F2.keeps X1 (fun e => hbx e.symm)
    have T2l := treeIn.frame F2 T1l (fun k hk e => by subst e; exact nbl hk)
    have T2r := treeIn.frame F2 T1r (fun k hk e => by subst e; exact nbr hk)
    have T2 := treeIn.frame F2 T1 (fun k hk e => by subst e; exact n2 hk)
    have F2' := F1.next F2 (fun k _ e => Or.inl e)
    clear F1 F2 T1l T1r T1 B1 X1
    go_wp2_with fail
    have hm := fit_mk (b := b) (a := a) fr hr
    have hm2 := hi_le hm
    have hm1 := hi_nonneg hm
    rw [items_mk] at hm2
    simp only [List.length_append, List.length_cons] at hm2
    have HM := Lib.hid hm
    have hm3 : hiT (mkT b a xr r) < 4611686018427387904 := by rw [HLEN.out] at hc; omega
    clear hm hm2
    refine (fit_any xb xa xl (mkT b a xr r) w2 X2 T2l.root ⟨rfl, B2⟩ (fun h => m1 (rootB_sub h)) (fun h => hbx (by have h' : xb ∈ [b] := h; simp at h'; exact h'.symm)) b1 (by rw [HLEN.out] at hc; omega) hm1 hm3).mono ?_
    rintro e w3 ⟨rfl, B3, F3⟩
    have B2' := F3.keeps B2 hbx
    have T3l := treeIn.frame F3 T2l (fun k hk e => by subst e; exact m1 hk)
    have T3r := treeIn.frame F3 T2r (fun k hk e => by subst e; exact m2 hk)
    have T3 := treeIn.frame F3 T2 (fun k hk e => by subst e; exact nxr hk)
    have F3' := F2'.next F3 (fun k _ e => Or.inr e)
    go_wp2_with fail
    go_ret
    exact ⟨rfl, ⟨⟨rfl, B3⟩, T3l, ⟨rfl, B2'⟩, T3r, T3⟩, F3'.mono (fun k _ h => by rcases h with rfl | rfl <;> simp [blocksT])⟩

set_option maxRecDepth 100000 in
set_option maxHeartbeats 2000000 in
theorem turnL_any (b : Nat) (a : Nd) (l r : BT Nd) (w : World) (hin : treeIn w (.node b 0 a l r)) (hsep : (blocksT (.node b 0 a l r)).Nodup) (hn : r ≠ .nil) (hl : FitT l) (hr : FitT r)
    (hc : (itemsT l).length + (itemsT r).length < 1099511627776) :
    Calls Tryz.prog 169 #[.pointer (some ⟨b, 0, none⟩)] w fun e w' => e = .returned (turnL b a l r).ptr ∧ treeIn w' (turnL b a l r) ∧ Fr (· ∈ blocksT (.node b 0 a l r)) w w' := by
  cases r with
  | nil => exact absurd rfl hn
  | node xb xo xa xl xr =>
    obtain ⟨⟨_, hb⟩, hll, ⟨⟨rfl, hx⟩, hxl, hxr⟩⟩ := hin
    obtain ⟨n1, n2, n3, n4, n5⟩ := sep_node hsep
    obtain ⟨m1, m2, m3, m4, m5⟩ := sep_node n4
    have hbx : b ≠ xb := fun e => n2 (by simp [blocksT, e])
    have nbl : b ∉ blocksT xl := fun e => n2 (by simp [blocksT, e])
    have nbr : b ∉ blocksT xr := fun e => n2 (by simp [blocksT, e])
    have nxl : xb ∉ blocksT l := fun h => n5 xb h (by simp [blocksT])
    have fl := hr.2.2.2.1
    have fr := hr.2.2.2.2
    have b1 := hi_nonneg fl
    have b2 := hi_nonneg fr
    have b3 := hi_nonneg hl
    have b4 := hi_le fl
    have b5 := hi_le fr
    have b6 := hi_le hl
    have hlen : (itemsT (.node xb 0 xa xl xr)).length = (itemsT xl).length + 1 + (itemsT xr).length := by simp [itemsT]; omega
    have hb' : w.heap[b]? = some (nodeO a l.ptr (.pointer (some ⟨xb, 0, none⟩))) := hb
    clear hb n2 n4 n5 hsep
    obtain ⟨xlp, exl⟩ := ptr_some xl
    obtain ⟨xrp, exr⟩ := ptr_some xr
    obtain ⟨lp, el⟩ := ptr_some l
    rw [exl, exr] at hx
    rw [el] at hb'
    have EXL := Lib.hid exl
    have EXR := Lib.hid exr
    have EL := Lib.hid el
    have HLEN := Lib.hid hlen
    clear exl exr el hlen
    obtain ⟨_, _, _, _, _, c5, c6⟩ := node_cells hb'
    obtain ⟨_, _, _, _, _, d5, d6⟩ := node_cells hx
    have f6 := node_free hb' 6
    have g5 := node_free hx 5
    go_enter Tryz.func169, Tryz.ntmps169
    go_wp2_with fail
    obtain ⟨W1, hW1⟩ : ∃ W1, W1 = (w.setCell ⟨b, 6, none⟩ (.pointer xlp)).setCell ⟨xb, 5, none⟩ (.pointer (some ⟨b, 0, none⟩)) := ⟨_, rfl⟩
    rw [← hW1]
    have B1 : W1.heap[b]? = some (nodeO a l.ptr xl.ptr) := by rw [hW1, EXL.out, EL.out]; exact block_set_other (node_set6 hb' _) (p := ⟨xb, 5, none⟩) hbx _
    have X1 : W1.heap[xb]? = some (nodeO xa (.pointer (some ⟨b, 0, none⟩)) xr.ptr) := by rw [hW1, EXR.out]; exact node_set5 (block_set_other hx (p := ⟨b, 6, none⟩) (fun e => hbx e.symm) _) _
    have F1 : Fr (fun k => k = b ∨ k = xb) w W1 := by rw [hW1]; exact Fr.setCell (F := fun k => k = b ∨ k = xb) (Fr.setCell (F := fun k => k = b ∨ k = xb) (Fr.refl _ w) (p := ⟨b, 6, none⟩) (fun _ => Or.inl rfl) _) (p := ⟨xb, 5, none⟩) (fun _ => Or.inr rfl) _
    clear hW1 c5 c6 d5 d6 f6 g5 hb' hx
    have T1l : treeIn W1 xl := treeIn.frame F1 hxl (fun k hk e => by rcases e with rfl | rfl; exact nbl hk; exact m1 hk)
    have T1r : treeIn W1 xr := treeIn.frame F1 hxr (fun k hk e => by rcases e with rfl | rfl; exact nbr hk; exact m2 hk)
    have T1 : treeIn W1 l := treeIn.frame F1 hll (fun k hk e => by rcases e with rfl | rfl; exact n1 hk; exact nxl hk)
    refine (fit_any b a l xl W1 B1 T1.root T1l.root (fun h => n1 (rootB_sub h)) (fun h => nbl (rootB_sub h)) b3 (by omega) b1 (by rw [HLEN.out] at hc; omega)).mono ?_
    rintro e w2 ⟨rfl, B2, F2⟩
    have X2 := F2.keeps X1 (fun e => hbx e.symm)
    have T2l := treeIn.frame F2 T1l (fun k hk e => by subst e; exact nbl hk)
    have T2r := treeIn.frame F2 T1r (fun k hk e => by subst e; exact nbr hk)
    have T2 := treeIn.frame F2 T1 (fun k hk e => by subst e; exact n1 hk)
    have F2' := F1.next F2 (fun k _ e => Or.inl e)
    clear F1 F2 T1l T1r T1 B1 X1
    go_wp2_with fail
    have hm := fit_mk (b := b) (a := a) hl fl
    have hm2 := hi_le hm
    have hm1 := hi_nonneg hm
    rw [items_mk] at hm2
    simp only [List.length_append, List.length_cons] at hm2
    have HM := Lib.hid hm
    have hm3 : hiT (mkT b a l xl) < 4611686018427387904 := by rw [HLEN.out] at hc; omega
    clear hm hm2
    refine (fit_any xb xa (mkT b a l xl) xr w2 X2 ⟨rfl, B2⟩ T2r.root (fun h => hbx (by have h' : xb ∈ [b] := h; simp at h'; exact h'.symm)) (fun h => m2 (rootB_sub h)) hm1 hm3 b2 (by rw [HLEN.out] at hc; omega)).mono ?_
    rintro e w3 ⟨rfl, B3, F3⟩
    have B2' := F3.keeps B2 hbx
    have T3l := treeIn.frame F3 T2l (fun k hk e => by subst e; exact m1 hk)
    have T3r := treeIn.frame F3 T2r (fun k hk e => by subst e; exact m2 hk)
    have T3 := treeIn.frame F3 T2 (fun k hk e => by subst e; exact nxl hk)
    have F3' := F2'.next F3 (fun k _ e => Or.inr e)
    go_wp2_with fail
    go_ret
    exact ⟨rfl, ⟨⟨rfl, B3⟩, ⟨⟨rfl, B2'⟩, T3, T3l⟩, T3r⟩, F3'.mono (fun k _ h => by rcases h with rfl | rfl <;> simp [blocksT])⟩
end Go.Proofs.YtacedfcckkpciaaGreatDoor

namespace Go.Proofs.YtacedfcckkpciaaGreatDoor
open Go.RowKit Go.Deep

theorem upL_blocks {l : BT Nd} (h : FitT l) : (blocksT (upL l)).Perm (blocksT l) := by
  cases l with
  | nil => exact .refl _
  | node b o a xl xr =>
    unfold upL; dsimp only; split
    · rename_i hc
      have := hi_nonneg h.2.2.2.1
      exact turnL_blocks (ne_nil_of_hi (by omega))
    · exact .refl _
theorem upR_blocks {r : BT Nd} (h : FitT r) : (blocksT (upR r)).Perm (blocksT r) := by
  cases r with
  | nil => exact .refl _
  | node b o a xl xr =>
    unfold upR; dsimp only; split
    · rename_i hc
      have := hi_nonneg h.2.2.2.2
      exact turnR_blocks (ne_nil_of_hi (by omega))
    · exact .refl _
theorem node_blocks {b o o' : Nat} {a a' : Nd} {l r l' r' : BT Nd} (h1 : (blocksT l').Perm (blocksT l)) (h2 : (blocksT r').Perm (blocksT r)) : (blocksT (.node b o a l' r')).Perm (blocksT (.node b o' a' l r)) :=
  List.Perm.cons b (h1.append h2)
theorem level_blocks {b : Nat} {a : Nd} {l r : BT Nd} (hl : FitT l) (hr : FitT r) : (blocksT (levelT b a l r)).Perm (b :: (blocksT l ++ blocksT r)) := by
  unfold levelT
  have h1 := hi_nonneg hl
  have h2 := hi_nonneg hr
  split
  · exact (turnR_blocks (o := 0) (upL_ne hl (ne_nil_of_hi (by omega)))).trans (node_blocks (a' := a) (o' := 0) (upL_blocks hl) (.refl _))
  · split
    · exact (turnL_blocks (o := 0) (upR_ne hr (ne_nil_of_hi (by omega)))).trans (node_blocks (a' := a) (o' := 0) (.refl _) (upR_blocks hr))
    · exact .refl _

theorem S_level {w : World} {b : Nat} {a : Nd} {l r : BT Nd} {lp rp : Option Addr} (hb : w.heap[b]? = some (nodeO a (.pointer lp) (.pointer rp))) (hl : rootIn w l) (hr : rootIn w r) :
    w.cell? ⟨b, 5, none⟩ = some (.pointer lp) ∧ w.cell? ⟨b, 6, none⟩ = some (.pointer rp) ∧ rootIn w l ∧ rootIn w r := by
  obtain ⟨_, _, _, _, _, c5, c6⟩ := node_cells hb
  exact ⟨c5, c6, hl, hr⟩

set_option maxRecDepth 100000 in
set_option maxHeartbeats 4000000 in
theorem level_mid (b : Nat) (a : Nd) (l r : BT Nd) (w : World) (hin : treeIn w (.node b 0 a l r)) (hsep : (blocksT (.node b 0 a l r)).Nodup) (hl : FitT l) (hr : FitT r)
    (hc : (itemsT l).length + (itemsT r).length < 1099511627776) (h1 : hiT l - hiT r ≤ 1) (h2 : -1 ≤ hiT l - hiT r) :
    Calls Tryz.prog 109 #[.pointer (some ⟨b, 0, none⟩)] w fun e w' => e = .returned (.pointer (some ⟨b, 0, none⟩)) ∧ treeIn w' (mkT b a l r) ∧ Fr (· ∈ blocksT (.node b 0 a l r)) w w' := by
  obtain ⟨_, hb, hll, hrr⟩ := hin.parts
  obtain ⟨n1, n2, _, _, _⟩ := sep_node hsep
  have b1 := hi_nonneg hl
  have b2 := hi_nonneg hr
  have b3 := hi_le hl
  have b4 := hi_le hr
  obtain ⟨lp, el⟩ := ptr_some l
  obtain ⟨rp, er⟩ := ptr_some r
  have EL := Lib.hid el
  have ER := Lib.hid er
  clear el er hsep
  have hw : IntKind.i64.wrap (hiT l - hiT r) = hiT l - hiT r := by rw [IntKind.wrap_i64]; omega
  go_enter Tryz.func109, Tryz.ntmps109
  go_wp2_with fail
  refine (fit_any b a l r w hb hll.root hrr.root (fun h => n1 (rootB_sub h)) (fun h => n2 (rootB_sub h)) b1 (by omega) b2 (by omega)).mono ?_
  rintro e w1 ⟨rfl, B1, F1⟩
  have T1 : treeIn w1 l := treeIn.frame F1 hll (fun k hk e => by subst e; exact n1 hk)
  have T2 : treeIn w1 r := treeIn.frame F1 hrr (fun k hk e => by subst e; exact n2 hk)
  clear hb hll hrr
  rw [EL.out, ER.out] at B1
  go_wp2_with fail
  go_region_held3 (fun W => W.cell? ⟨b, 5, none⟩ = some (.pointer lp) ∧ W.cell? ⟨b, 6, none⟩ = some (.pointer rp) ∧ rootIn W l ∧ rootIn W r) (exact S_level B1 T1.root T2.root) ((go_at_call 168; first | ((with_reducible refine (high_at l lp _ EL.out ?_).mono ?_); exact T1.root; rintro e w' ⟨rfl, rfl⟩) | ((with_reducible refine (high_at r rp _ ER.out ?_).mono ?_); exact T2.root; rintro e w' ⟨rfl, rfl⟩)))
  clear hw
  go_wp2_with fail
  go_ret
  refine ⟨rfl, ⟨⟨rfl, ?_⟩, T1, T2⟩, Fr.drew (F1.mono fun k _ e => by simp [blocksT, e])⟩
  rw [EL.out, ER.out]
  exact B1

theorem S_level2 {w : World} {b lb : Nat} {a la : Nd} {x y : Value} {ll lr : BT Nd} {lp rp : Option Addr} (hb : w.heap[b]? = some (nodeO a x y)) (hx : w.heap[lb]? = some (nodeO la (.pointer lp) (.pointer rp))) (hl : rootIn w ll) (hr : rootIn w lr) :
    w.cell? ⟨b, 5, none⟩ = some x ∧ w.cell? ⟨b, 6, none⟩ = some y ∧ w.cell? ⟨lb, 5, none⟩ = some (.pointer lp) ∧ w.cell? ⟨lb, 6, none⟩ = some (.pointer rp) ∧ rootIn w ll ∧ rootIn w lr := by
  obtain ⟨_, _, _, _, _, c5, c6⟩ := node_cells hb
  obtain ⟨_, _, _, _, _, d5, d6⟩ := node_cells hx
  exact ⟨c5, c6, d5, d6, hl, hr⟩

set_option maxRecDepth 100000 in
set_option maxHeartbeats 4000000 in
theorem level_left (b lb : Nat) (a la : Nd) (ll lr r : BT Nd) (w : World) (hin : treeIn w (.node b 0 a (.node lb 0 la ll lr) r)) (hsep : (blocksT (.node b 0 a (.node lb 0 la ll lr) r)).Nodup) (hl : FitT (.node lb 0 la ll lr)) (hr : FitT r)
    (hc : (itemsT (.node lb 0 la ll lr)).length + (itemsT r).length < 1099511627776) (h1 : 1 < la.high - hiT r) :
    Calls Tryz.prog 109 #[.pointer (some ⟨b, 0, none⟩)] w fun e w' => e = .returned (turnR b (fitN a (.node lb 0 la ll lr) r) (upL (.node lb 0 la ll lr)) r).ptr ∧ treeIn w' (turnR b (fitN a (.node lb 0 la ll lr) r) (upL (.node lb 0 la ll lr)) r) ∧
      Fr (· ∈ blocksT (.node b 0 a (.node lb 0 la ll lr) r)) w w' := by
  obtain ⟨_, hb, hll, hrr⟩ := hin.parts
  obtain ⟨n1, n2, n3, n4, n5⟩ := sep_node hsep
  have b1 := hi_nonneg hl
  have b2 := hi_nonneg hr
  have b3 := hi_le hl
  have b4 := hi_le hr
  have k1 := hi_nonneg hl.2.2.2.1
  have k2 := hi_nonneg hl.2.2.2.2
  have hlc : (itemsT ll).length + (itemsT lr).length < 1099511627776 := by
    have : (itemsT (.node lb 0 la ll lr)).length = (itemsT ll).length + 1 + (itemsT lr).length := by simp [itemsT]; omega
    omega
  have eh : hiT (.node lb 0 la ll lr) = la.high := rfl
  rw [eh] at b1 b3
  have hw : IntKind.i64.wrap (la.high - hiT r) = la.high - hiT r := by rw [IntKind.wrap_i64]; omega
  have el : (BT.node lb 0 la ll lr).ptr = .pointer (some ⟨lb, 0, none⟩) := rfl
  obtain ⟨llp, ell⟩ := ptr_some ll
  obtain ⟨lrp, elr⟩ := ptr_some lr
  obtain ⟨rp, er⟩ := ptr_some r
  have EL := Lib.hid el
  have ELL := Lib.hid ell
  have ELR := Lib.hid elr
  have ER := Lib.hid er
  have EH := Lib.hid eh
  clear el er ell elr eh
  go_enter Tryz.func109, Tryz.ntmps109
  go_wp2_with fail
  refine (fit_any b a (.node lb 0 la ll lr) r w hb hll.root hrr.root (fun h => n1 (rootB_sub h)) (fun h => n2 (rootB_sub h)) (by rw [EH.out]; exact b1) (by rw [EH.out]; omega) b2 (by omega)).mono ?_
  rintro e w1 ⟨rfl, B1, F1⟩
  have T1 : treeIn w1 (.node lb 0 la ll lr) := treeIn.frame F1 hll (fun k hk e => by subst e; exact n1 hk)
  have T2 : treeIn w1 r := treeIn.frame F1 hrr (fun k hk e => by subst e; exact n2 hk)
  clear hb hll hrr
  obtain ⟨_, X1, TL, TR⟩ := T1.parts
  have X1' := X1
  rw [ELL.out, ELR.out] at X1'
  have B1' := B1
  rw [EL.out, ER.out] at B1
  have F1 : Fr (· ∈ blocksT (.node b 0 a (.node lb 0 la ll lr) r)) w w1 := F1.mono fun k _ e => by simp [blocksT, e]
  have HEQ : Hid (hiT (.node lb 0 la ll lr) = la.high) := EH
  have hig : ∀ W, rootIn W (.node lb 0 la ll lr) → Calls Tryz.prog 168 #[.pointer (some ⟨lb, 0, none⟩)] W fun e w' => e = .returned (.int .i64 la.high) ∧ w' = W := fun W h => high_at (.node lb 0 la ll lr) _ W rfl h
  have HIG := Lib.hid hig
  clear hig
  go_wp2_with fail
  go_region_held3 (fun W => W.cell? ⟨b, 5, none⟩ = some (.pointer (some ⟨lb, 0, none⟩)) ∧ W.cell? ⟨b, 6, none⟩ = some (.pointer rp) ∧ rootIn W (.node lb 0 la ll lr) ∧ rootIn W r) (exact S_level B1 T1.root T2.root) ((go_at_call 168; first | ((with_reducible refine (HIG.out _ ?_).mono ?_); exact T1.root; rintro e w' ⟨rfl, rfl⟩) | ((with_reducible refine (high_at r rp _ ER.out ?_).mono ?_); exact T2.root; rintro e w' ⟨rfl, rfl⟩)))
  clear hw HIG
  obtain ⟨w2, hw2⟩ : ∃ w2, w2 = w1.drew := ⟨_, rfl⟩
  rw [← hw2]
  have B2 : w2.heap[b]? = some (nodeO (fitN a (.node lb 0 la ll lr) r) (.pointer (some ⟨lb, 0, none⟩)) (.pointer rp)) := by rw [hw2]; exact B1
  have X2 : w2.heap[lb]? = some (nodeO la (.pointer llp) (.pointer lrp)) := by rw [hw2]; exact X1'
  have U1 : treeIn w2 (.node lb 0 la ll lr) := by rw [hw2]; exact T1
  have U2 : treeIn w2 r := by rw [hw2]; exact T2
  have TL : treeIn w2 ll := by rw [hw2]; exact TL
  have TR : treeIn w2 lr := by rw [hw2]; exact TR
  have F2 : Fr (· ∈ blocksT (.node b 0 a (.node lb 0 la ll lr) r)) w w2 := by rw [hw2]; exact F1.drew
  clear hw2 B1 B1' X1 X1' T1 T2 F1
  by_cases h2 : hiT ll < hiT lr
  · go_wp2_with fail
    go_region_held3 (fun W => W.cell? ⟨b, 5, none⟩ = some (.pointer (some ⟨lb, 0, none⟩)) ∧ W.cell? ⟨b, 6, none⟩ = some (.pointer rp) ∧ W.cell? ⟨lb, 5, none⟩ = some (.pointer llp) ∧ W.cell? ⟨lb, 6, none⟩ = some (.pointer lrp) ∧ rootIn W ll ∧ rootIn W lr) (exact S_level2 B2 X2 TL.root TR.root) ((go_at_call 168; first | ((with_reducible refine (high_at ll llp _ ELL.out ?_).mono ?_); exact TL.root; rintro e w' ⟨rfl, rfl⟩) | ((with_reducible refine (high_at lr lrp _ ELR.out ?_).mono ?_); exact TR.root; rintro e w' ⟨rfl, rfl⟩)))
    obtain ⟨_, _, _, _, _, c5, c6⟩ := node_cells B2
    go_wp2_with fail
    have hnr : lr ≠ .nil := ne_nil_of_hi (by omega)
    have e0 : upL (.node lb 0 la ll lr) = turnL lb la ll lr := by show (if hiT ll < hiT lr then _ else _) = _; rw [if_pos h2]
    have hperm : (blocksT (turnL lb la ll lr)).Perm (blocksT (.node lb 0 la ll lr)) := turnL_blocks hnr
    have htn : turnL lb la ll lr ≠ .nil := by rw [← e0]; exact upL_ne hl (by simp)
    have htf : FitT (turnL lb la ll lr) := turnL_fit hl.2.2.2.1 hl.2.2.2.2
    have hti : (itemsT (turnL lb la ll lr)).length = (itemsT (.node lb 0 la ll lr)).length := by rw [← e0, upL_items hl]
    have HT := Lib.hid (And.intro e0 (And.intro hperm (And.intro htn (And.intro htf hti))))
    obtain ⟨u, hu⟩ := ptr_some (turnL lb la ll lr)
    have HU := Lib.hid hu
    clear e0 hperm htn htf hti hu
    refine (turnL_any lb la ll lr w2.drew U1 n3 hnr hl.2.2.2.1 hl.2.2.2.2 hlc).mono ?_
    rintro e w3 ⟨rfl, T3, F3⟩
    rw [HU.out]
    have B3 := F3.keeps (b := b) B2 (fun h => n1 h)
    have U3 : treeIn w3 r := treeIn.frame F3 U2 (fun k hk e => n5 k e hk)
    have F3' := F2.drew.next F3 (fun k _ e => show k ∈ blocksT (.node b 0 a (.node lb 0 la ll lr) r) from List.mem_cons_of_mem _ (List.mem_append_left _ e))
    have f5 := node_free B3 5
    obtain ⟨_, _, _, _, _, c5', _⟩ := node_cells B3
    clear B2 X2 U1 U2 TL TR F2 c5 c6
    go_wp2_with fail
    have hnt : b ∉ blocksT (turnL lb la ll lr) := fun h => n1 (HT.out.2.1.mem_iff.1 h)
    have FS : Fr (· = b) w3 (w3.setCell ⟨b, 5, none⟩ (.pointer u)) := Fr.setCell (F := (· = b)) (Fr.refl _ w3) (p := ⟨b, 5, none⟩) (fun _ => rfl) _
    have T4 := treeIn.frame FS T3 (fun k hk e => by subst e; exact hnt hk)
    have U4 := treeIn.frame FS U3 (fun k hk e => by subst e; exact n2 hk)
    have B4 := node_set5 B3 (.pointer u)
    rw [← HU.out] at B4 T4 U4 ⊢
    rw [← ER.out] at B4
    refine (turnR_any b (fitN a (.node lb 0 la ll lr) r) (turnL lb la ll lr) r _ ⟨⟨rfl, B4⟩, T4, U4⟩ ((node_blocks (b := b) (o := 0) (o' := 0) (a := a) (a' := a) HT.out.2.1 (.refl _)).nodup_iff.2 hsep) HT.out.2.2.1 HT.out.2.2.2.1 hr (by rw [HT.out.2.2.2.2]; exact hc)).mono ?_
    rintro e w5 ⟨rfl, T5, F5⟩
    rw [HU.out] at F5
    have FF := (F3'.next FS (fun k _ e => show k ∈ blocksT (.node b 0 a (.node lb 0 la ll lr) r) from by simp [blocksT, e])).next F5 (fun k _ e => (node_blocks (b := b) (o := 0) (o' := 0) (a := a) (a' := a) HT.out.2.1 (.refl _)).mem_iff.1 e)
    go_wp2_with fail
    go_ret
    rw [HT.out.1]
    exact ⟨rfl, T5, FF⟩
  · go_wp2_with fail
    go_region_held3 (fun W => W.cell? ⟨b, 5, none⟩ = some (.pointer (some ⟨lb, 0, none⟩)) ∧ W.cell? ⟨b, 6, none⟩ = some (.pointer rp) ∧ W.cell? ⟨lb, 5, none⟩ = some (.pointer llp) ∧ W.cell? ⟨lb, 6, none⟩ = some (.pointer lrp) ∧ rootIn W ll ∧ rootIn W lr) (exact S_level2 B2 X2 TL.root TR.root) ((go_at_call 168; first | ((with_reducible refine (high_at ll llp _ ELL.out ?_).mono ?_); exact TL.root; rintro e w' ⟨rfl, rfl⟩) | ((with_reducible refine (high_at lr lrp _ ELR.out ?_).mono ?_); exact TR.root; rintro e w' ⟨rfl, rfl⟩)))
    go_wp2_with fail
    have e0 : upL (.node lb 0 la ll lr) = .node lb 0 la ll lr := by show (if hiT ll < hiT lr then _ else _) = _; rw [if_neg (by omega)]
    have E0 := Lib.hid e0
    clear e0
    refine (turnR_any b (fitN a (.node lb 0 la ll lr) r) (.node lb 0 la ll lr) r w2.drew ⟨⟨rfl, by rw [EL.out, ER.out]; exact B2⟩, U1, U2⟩ hsep (by simp) hl hr hc).mono ?_
    rintro e w3 ⟨rfl, T3, F3⟩
    have FF := F2.drew.next F3 (fun k _ e => e)
    go_wp2_with fail
    go_ret
    rw [E0.out]
    exact ⟨rfl, T3, FF⟩

set_option maxRecDepth 100000 in
set_option maxHeartbeats 4000000 in
theorem level_right (b rb : Nat) (a ra : Nd) (l rl rr : BT Nd) (w : World) (hin : treeIn w (.node b 0 a l (.node rb 0 ra rl rr))) (hsep : (blocksT (.node b 0 a l (.node rb 0 ra rl rr))).Nodup) (hl : FitT l) (hr : FitT (.node rb 0 ra rl rr))
    (hc : (itemsT l).length + (itemsT (.node rb 0 ra rl rr)).length < 1099511627776) (h1 : hiT l - ra.high < -1) :
    Calls Tryz.prog 109 #[.pointer (some ⟨b, 0, none⟩)] w fun e w' => e = .returned (turnL b (fitN a l (.node rb 0 ra rl rr)) l (upR (.node rb 0 ra rl rr))).ptr ∧ treeIn w' (turnL b (fitN a l (.node rb 0 ra rl rr)) l (upR (.node rb 0 ra rl rr))) ∧
      Fr (· ∈ blocksT (.node b 0 a l (.node rb 0 ra rl rr))) w w' := by
  obtain ⟨_, hb, hll, hrr⟩ := hin.parts
  obtain ⟨n1, n2, n3, n4, n5⟩ := sep_node hsep
  have b1 := hi_nonneg hl
  have b2 := hi_nonneg hr
  have b3 := hi_le hl
  have b4 := hi_le hr
  have k1 := hi_nonneg hr.2.2.2.1
  have k2 := hi_nonneg hr.2.2.2.2
  have hlc : (itemsT rl).length + (itemsT rr).length < 1099511627776 := by
    have : (itemsT (.node rb 0 ra rl rr)).length = (itemsT rl).length + 1 + (itemsT rr).length := by simp [itemsT]; omega
    omega
  have eh : hiT (.node rb 0 ra rl rr) = ra.high := rfl
  rw [eh] at b2 b4
  have hw : IntKind.i64.wrap (hiT l - ra.high) = hiT l - ra.high := by rw [IntKind.wrap_i64]; omega
  have er : (BT.node rb 0 ra rl rr).ptr = .pointer (some ⟨rb, 0, none⟩) := rfl
  obtain ⟨rlp, erl⟩ := ptr_some rl
  obtain ⟨rrp, err⟩ := ptr_some rr
  obtain ⟨lp, el⟩ := ptr_some l
  have EL := Lib.hid el
  have ERL := Lib.hid erl
  have ERR := Lib.hid err
  have ER := Lib.hid er
  have EH := Lib.hid eh
  clear el er erl err eh
  go_enter Tryz.func109, Tryz.ntmps109
  go_wp2_with fail
  refine (fit_any b a l (.node rb 0 ra rl rr) w hb hll.root hrr.root (fun h => n1 (rootB_sub h)) (fun h => n2 (rootB_sub h)) b1 (by omega) (by rw [EH.out]; exact b2) (by rw [EH.out]; omega)).mono ?_
  rintro e w1 ⟨rfl, B1, F1⟩
  have T1 : treeIn w1 l := treeIn.frame F1 hll (fun k hk e => by subst e; exact n1 hk)
  have T2 : treeIn w1 (.node rb 0 ra rl rr) := treeIn.frame F1 hrr (fun k hk e => by subst e; exact n2 hk)
  clear hb hll hrr
  obtain ⟨_, X1, TL, TR⟩ := T2.parts
  have X1' := X1
  rw [ERL.out, ERR.out] at X1'
  have B1' := B1
  rw [EL.out, ER.out] at B1
  have F1 : Fr (· ∈ blocksT (.node b 0 a l (.node rb 0 ra rl rr))) w w1 := F1.mono fun k _ e => by simp [blocksT, e]
  have hig : ∀ W, rootIn W (.node rb 0 ra rl rr) → Calls Tryz.prog 168 #[.pointer (some ⟨rb, 0, none⟩)] W fun e w' => e = .returned (.int .i64 ra.high) ∧ w' = W := fun W h => high_at (.node rb 0 ra rl rr) _ W rfl h
  have HIG := Lib.hid hig
  clear hig
  go_wp2_with fail
  go_region_held3 (fun W => W.cell? ⟨b, 5, none⟩ = some (.pointer lp) ∧ W.cell? ⟨b, 6, none⟩ = some (.pointer (some ⟨rb, 0, none⟩)) ∧ rootIn W l ∧ rootIn W (.node rb 0 ra rl rr)) (exact S_level B1 T1.root T2.root) ((go_at_call 168; first | ((with_reducible refine (HIG.out _ ?_).mono ?_); exact T2.root; rintro e w' ⟨rfl, rfl⟩) | ((with_reducible refine (high_at l lp _ EL.out ?_).mono ?_); exact T1.root; rintro e w' ⟨rfl, rfl⟩)))
  clear hw HIG
  obtain ⟨w2, hw2⟩ : ∃ w2, w2 = w1.drew := ⟨_, rfl⟩
  rw [← hw2]
  have B2 : w2.heap[b]? = some (nodeO (fitN a l (.node rb 0 ra rl rr)) (.pointer lp) (.pointer (some ⟨rb, 0, none⟩))) := by rw [hw2]; exact B1
  have X2 : w2.heap[rb]? = some (nodeO ra (.pointer rlp) (.pointer rrp)) := by rw [hw2]; exact X1'
  have U1 : treeIn w2 l := by rw [hw2]; exact T1
  have U2 : treeIn w2 (.node rb 0 ra rl rr) := by rw [hw2]; exact T2
  have TL : treeIn w2 rl := by rw [hw2]; exact TL
  have TR : treeIn w2 rr := by rw [hw2]; exact TR
  have F2 : Fr (· ∈ blocksT (.node b 0 a l (.node rb 0 ra rl rr))) w w2 := by rw [hw2]; exact F1.drew
  clear hw2 B1 B1' X1 X1' T1 T2 F1
  by_cases h2 : hiT rr < hiT rl
  · go_wp2_with fail
    go_region_held3 (fun W => W.cell? ⟨b, 5, none⟩ = some (.pointer lp) ∧ W.cell? ⟨b, 6, none⟩ = some (.pointer (some ⟨rb, 0, none⟩)) ∧ W.cell? ⟨rb, 5, none⟩ = some (.pointer rlp) ∧ W.cell? ⟨rb, 6, none⟩ = some (.pointer rrp) ∧ rootIn W rl ∧ rootIn W rr) (exact S_level2 B2 X2 TL.root TR.root) ((go_at_call 168; first | ((with_reducible refine (high_at rr rrp _ ERR.out ?_).mono ?_); exact TR.root; rintro e w' ⟨rfl, rfl⟩) | ((with_reducible refine (high_at rl rlp _ ERL.out ?_).mono ?_); exact TL.root; rintro e w' ⟨rfl, rfl⟩)))
    obtain ⟨_, _, _, _, _, c5, c6⟩ := node_cells B2
    go_wp2_with fail
    have hnr : rl ≠ .nil := ne_nil_of_hi (by omega)
    have e0 : upR (.node rb 0 ra rl rr) = turnR rb ra rl rr := by show (if hiT rr < hiT rl then _ else _) = _; rw [if_pos h2]
    have hperm : (blocksT (turnR rb ra rl rr)).Perm (blocksT (.node rb 0 ra rl rr)) := turnR_blocks hnr
    have htn : turnR rb ra rl rr ≠ .nil := by rw [← e0]; exact upR_ne hr (by simp)
    have htf : FitT (turnR rb ra rl rr) := turnR_fit hr.2.2.2.1 hr.2.2.2.2
    have hti : (itemsT (turnR rb ra rl rr)).length = (itemsT (.node rb 0 ra rl rr)).length := by rw [← e0, upR_items hr]
    have HT := Lib.hid (And.intro e0 (And.intro hperm (And.intro htn (And.intro htf hti))))
    obtain ⟨u, hu⟩ := ptr_some (turnR rb ra rl rr)
    have HU := Lib.hid hu
    clear e0 hperm htn htf hti hu
    refine (turnR_any rb ra rl rr w2.drew U2 n4 hnr hr.2.2.2.1 hr.2.2.2.2 hlc).mono ?_
    rintro e w3 ⟨rfl, T3, F3⟩
    rw [HU.out]
    have B3 := F3.keeps (b := b) B2 (fun h => n2 h)
    have U3 : treeIn w3 l := treeIn.frame F3 U1 (fun k hk e => n5 k hk e)
    have F3' := F2.drew.next F3 (fun k _ e => show k ∈ blocksT (.node b 0 a l (.node rb 0 ra rl rr)) from List.mem_cons_of_mem _ (List.mem_append_right _ e))
    have f6 := node_free B3 6
    obtain ⟨_, _, _, _, _, _, c6'⟩ := node_cells B3
    clear B2 X2 U1 U2 TL TR F2 c5 c6
    go_wp2_with fail
    have hnt : b ∉ blocksT (turnR rb ra rl rr) := fun h => n2 (HT.out.2.1.mem_iff.1 h)
    have FS : Fr (· = b) w3 (w3.setCell ⟨b, 6, none⟩ (.pointer u)) := Fr.setCell (F := (· = b)) (Fr.refl _ w3) (p := ⟨b, 6, none⟩) (fun _ => rfl) _
    have T4 := treeIn.frame FS T3 (fun k hk e => by subst e; exact hnt hk)
    have U4 := treeIn.frame FS U3 (fun k hk e => by subst e; exact n1 hk)
    have B4 := node_set6 B3 (.pointer u)
    rw [← HU.out] at B4 T4 U4 ⊢
    rw [← EL.out] at B4
    refine (turnL_any b (fitN a l (.node rb 0 ra rl rr)) l (turnR rb ra rl rr) _ ⟨⟨rfl, B4⟩, U4, T4⟩ ((node_blocks (b := b) (o := 0) (o' := 0) (a := a) (a' := a) (.refl _) HT.out.2.1).nodup_iff.2 hsep) HT.out.2.2.1 hl HT.out.2.2.2.1 (by rw [HT.out.2.2.2.2]; exact hc)).mono ?_
    rintro e w5 ⟨rfl, T5, F5⟩
    rw [HU.out] at F5
    have FF := (F3'.next FS (fun k _ e => show k ∈ blocksT (.node b 0 a l (.node rb 0 ra rl rr)) from by simp [blocksT, e])).next F5 (fun k _ e => (node_blocks (b := b) (o := 0) (o' := 0) (a := a) (a' := a) (.refl _) HT.out.2.1).mem_iff.1 e)
    go_wp2_with fail
    go_ret
    rw [HT.out.1]
    exact ⟨rfl, T5, FF⟩
  · go_wp2_with fail
    go_region_held3 (fun W => W.cell? ⟨b, 5, none⟩ = some (.pointer lp) ∧ W.cell? ⟨b, 6, none⟩ = some (.pointer (some ⟨rb, 0, none⟩)) ∧ W.cell? ⟨rb, 5, none⟩ = some (.pointer rlp) ∧ W.cell? ⟨rb, 6, none⟩ = some (.pointer rrp) ∧ rootIn W rl ∧ rootIn W rr) (exact S_level2 B2 X2 TL.root TR.root) ((go_at_call 168; first | ((with_reducible refine (high_at rr rrp _ ERR.out ?_).mono ?_); exact TR.root; rintro e w' ⟨rfl, rfl⟩) | ((with_reducible refine (high_at rl rlp _ ERL.out ?_).mono ?_); exact TL.root; rintro e w' ⟨rfl, rfl⟩)))
    go_wp2_with fail
    have e0 : upR (.node rb 0 ra rl rr) = .node rb 0 ra rl rr := by show (if hiT rr < hiT rl then _ else _) = _; rw [if_neg (by omega)]
    have E0 := Lib.hid e0
    clear e0
    refine (turnL_any b (fitN a l (.node rb 0 ra rl rr)) l (.node rb 0 ra rl rr) w2.drew ⟨⟨rfl, by rw [EL.out, ER.out]; exact B2⟩, U1, U2⟩ hsep (by simp) hl hr hc).mono ?_
    rintro e w3 ⟨rfl, T3, F3⟩
    have FF := F2.drew.next F3 (fun k _ e => e)
    go_wp2_with fail
    go_ret
    rw [E0.out]
    exact ⟨rfl, T3, FF⟩

theorem level_any (b : Nat) (a : Nd) (l r : BT Nd) (w : World) (hin : treeIn w (.node b 0 a l r)) (hsep : (blocksT (.node b 0 a l r)).Nodup) (hl : FitT l) (hr : FitT r)
    (hc : (itemsT l).length + (itemsT r).length < 1099511627776) :
    Calls Tryz.prog 109 #[.pointer (some ⟨b, 0, none⟩)] w fun e w' => e = .returned (levelT b a l r).ptr ∧ treeIn w' (levelT b a l r) ∧ Fr (· ∈ blocksT (.node b 0 a l r)) w w' := by
  have h1 := hi_nonneg hl
  have h2 := hi_nonneg hr
  unfold levelT
  by_cases k1 : 1 < hiT l - hiT r
  · rw [if_pos k1]
    cases l with
    | nil => exact absurd k1 (by show ¬ 1 < 0 - hiT r; omega)
    | node lb o la ll lr =>
      obtain rfl : o = 0 := hl.1
      exact level_left b lb a la ll lr r w hin hsep hl hr hc k1
  · rw [if_neg k1]
    by_cases k2 : hiT l - hiT r < -1
    · rw [if_pos k2]
      cases r with
      | nil => exact absurd k2 (by show ¬ hiT l - 0 < -1; omega)
      | node rb o ra rl rr =>
        obtain rfl : o = 0 := hr.1
        exact level_right b rb a ra l rl rr w hin hsep hl hr hc k2
    · rw [if_neg k2]
      exact level_mid b a l r w hin hsep hl hr hc (by omega) (by omega)
end Go.Proofs.YtacedfcckkpciaaGreatDoor
