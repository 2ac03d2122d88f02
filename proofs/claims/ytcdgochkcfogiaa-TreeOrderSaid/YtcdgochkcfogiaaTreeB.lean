/- A node is made right: how high, and the latest end (fit). -/
import Derived.Test.YtcdgochkcfogiaaTreeA
namespace Go.Proofs.Ytcdgochkcfogiaa
open Go.RowKit Go.Deep

theorem rootIn.frame {F : Nat → Prop} {w w' : World} {t : BT Nd} (h : rootIn w t) (hf : Fr F w w') (hn : ∀ k ∈ rootB t, ¬ F k) : rootIn w' t := by
  cases t with
  | nil => trivial
  | node b o a l r => exact ⟨h.1, hf.keeps h.2 (hn b (by simp [rootB]))⟩
theorem rootIn.setCell {w : World} {t : BT Nd} (h : rootIn w t) {p : Addr} (hn : p.block ∉ rootB t) (v : Value) : rootIn (w.setCell p v) t := by
  cases t with
  | nil => trivial
  | node b o a l r => exact ⟨h.1, block_set_other h.2 (fun e => hn (by simp [rootB, e])) v⟩
theorem rootIn.drew {w : World} {t : BT Nd} (h : rootIn w t) : rootIn w.drew t := by
  cases t with
  | nil => trivial
  | node b o a l r => exact h
/-- What the loop over both sides makes of the latest end. -/
theorem nodeO_set3 (a : Nd) (l r : Value) (v : Int) : nodeO { a with last := v } l r = .cells #[.int .i64 a.id, .int .i64 a.f, .int .i64 a.t, .int .i64 v, .int .i64 a.high, l, r] 76 (0, 0) := rfl
theorem node_set3 {w : World} {b : Nat} {a : Nd} {l r : Value} (h : w.heap[b]? = some (nodeO a l r)) (v : Int) : (w.setCell ⟨b, 3, none⟩ (.int .i64 v)).heap[b]? = some (nodeO { a with last := v } l r) := block_set h 3 _
theorem node_set4 {w : World} {b : Nat} {a : Nd} {l r : Value} (h : w.heap[b]? = some (nodeO a l r)) (v : Int) : (w.setCell ⟨b, 4, none⟩ (.int .i64 v)).heap[b]? = some (nodeO { a with high := v } l r) := block_set h 4 _
theorem node_set5 {w : World} {b : Nat} {a : Nd} {l r : Value} (h : w.heap[b]? = some (nodeO a l r)) (v : Value) : (w.setCell ⟨b, 5, none⟩ v).heap[b]? = some (nodeO a v r) := block_set h 5 _
theorem node_set6 {w : World} {b : Nat} {a : Nd} {l r : Value} (h : w.heap[b]? = some (nodeO a l r)) (v : Value) : (w.setCell ⟨b, 6, none⟩ v).heap[b]? = some (nodeO a l v) := block_set h 6 _

theorem S_fit_keep {W : World} {b : Nat} {a : Nd} {l r : BT Nd} {lp rp : Option Addr} (h : W.cell? ⟨b, 2, none⟩ = some (.int .i64 a.t) ∧ W.cell? ⟨b, 5, none⟩ = some (.pointer lp) ∧ W.cell? ⟨b, 6, none⟩ = some (.pointer rp) ∧ rootIn W l ∧ rootIn W r)
    (nl : b ∉ rootB l) (nr : b ∉ rootB r) (i : Nat) (hi : i = 3 ∨ i = 4) (v : Value) :
    (W.setCell ⟨b, i, none⟩ v).cell? ⟨b, 2, none⟩ = some (.int .i64 a.t) ∧ (W.setCell ⟨b, i, none⟩ v).cell? ⟨b, 5, none⟩ = some (.pointer lp) ∧ (W.setCell ⟨b, i, none⟩ v).cell? ⟨b, 6, none⟩ = some (.pointer rp) ∧ rootIn (W.setCell ⟨b, i, none⟩ v) l ∧ rootIn (W.setCell ⟨b, i, none⟩ v) r := by
  obtain ⟨h1, h2, h3, h4, h5⟩ := h
  have e : ∀ j, j ≠ i → (W.setCell ⟨b, i, none⟩ v).cell? ⟨b, j, none⟩ = W.cell? ⟨b, j, none⟩ := fun j hj => World.cell?_setCell_other _ _ _ _ (fun e => hj (congrArg Addr.off e).symm)
  exact ⟨(e 2 (by omega)).trans h1, (e 5 (by omega)).trans h2, (e 6 (by omega)).trans h3, h4.setCell nl v, h5.setCell nr v⟩
/-- What the latest end is, round by round. -/
def stg (t : Int) (l r : BT Nd) : Nat → Int
  | 0 => t
  | 1 => laT t l
  | _ => laT (laT t l) r
theorem rootIn_some {w : World} {t : BT Nd} {x : Addr} (h : rootIn w t) (e : t.ptr = .pointer (some x)) : ∃ (b : Nat) (a : Nd) (l r : BT Nd), t = .node b 0 a l r ∧ x = ⟨b, 0, none⟩ ∧ w.heap[b]? = some (nodeO a l.ptr r.ptr) := by
  cases t with
  | nil => cases e
  | node b o a l r => obtain ⟨rfl, h⟩ := h; cases e; exact ⟨b, a, l, r, rfl, rfl, h⟩
theorem la_none {t : BT Nd} {d : Int} (e : t.ptr = .pointer none) : laT d t = d := by cases t; rfl; cases e
/-- What is shown of every round. -/
def FitAt (w : World) (b : Nat) (a : Nd) (v : Int) (lp rp : Option Addr) (wr : World) : Prop := wr.heap[b]? = some (nodeO { a with last := v } (.pointer lp) (.pointer rp)) ∧ Fr (· = b) w wr

set_option maxRecDepth 100000 in
set_option maxHeartbeats 4000000 in
theorem fit_any (b : Nat) (a : Nd) (l r : BT Nd) (w : World) (hb : w.heap[b]? = some (nodeO a l.ptr r.ptr)) (hl : rootIn w l) (hr : rootIn w r) (nl : b ∉ rootB l) (nr : b ∉ rootB r)
    (l0 : 0 ≤ hiT l) (l1 : hiT l < 4611686018427387904) (r0 : 0 ≤ hiT r) (r1 : hiT r < 4611686018427387904) :
    Calls Try.prog 49 #[.pointer (some ⟨b, 0, none⟩)] w fun e w' => e = .returned (.pointer (some ⟨b, 0, none⟩)) ∧ w'.heap[b]? = some (nodeO (fitN a l r) l.ptr r.ptr) ∧ Fr (· = b) w w' := by
  obtain ⟨lp, el⟩ := ptr_some l
  obtain ⟨rp, er⟩ := ptr_some r
  rw [el, er] at hb ⊢
  have EL := Lib.hid el
  have ER := Lib.hid er
  clear el er
  obtain ⟨c0, c1, c2, c3, c4, c5, c6⟩ := node_cells hb
  have f3 := node_free hb 3
  have f4 := node_free hb 4
  have hh : IntKind.i64.wrap (1 + imax (hiT l) (hiT r)) = 1 + max (hiT l) (hiT r) := by
    rw [show imax (hiT l) (hiT r) = max (hiT l) (hiT r) from rfl, IntKind.wrap_i64]; omega
  have HH := Lib.hid hh
  clear hh
  have i0 : ∀ w, (Instr.index 90 (.agg #[.pointer lp, .pointer rp]) (.int .i64 0)).run Try.prog w = .ok (.pointer lp) w := fun _ => by kernel_rfl
  have i1 : ∀ w, (Instr.index 90 (.agg #[.pointer lp, .pointer rp]) (.int .i64 1)).run Try.prog w = .ok (.pointer rp) w := fun _ => by kernel_rfl
  go_enter Try.func49, Try.ntmps49
  go_wp2
  go_region_held3 (fun W => W.cell? ⟨b, 2, none⟩ = some (.int .i64 a.t) ∧ W.cell? ⟨b, 5, none⟩ = some (.pointer lp) ∧ W.cell? ⟨b, 6, none⟩ = some (.pointer rp) ∧ rootIn W l ∧ rootIn W r) (first | exact ⟨c2, c5, c6, hl, hr⟩ | assumption | exact S_fit_keep (W := w) ⟨c2, c5, c6, hl, hr⟩ nl nr 4 (Or.inr rfl) _ | exact S_fit_keep (S_fit_keep (W := w) ⟨c2, c5, c6, hl, hr⟩ nl nr 4 (Or.inr rfl) _) nl nr 3 (Or.inl rfl) _) ((go_at_call 56; first | ((with_reducible refine (high_at l lp _ EL.out ?_).mono ?_); exact hl; rintro e w' ⟨rfl, rfl⟩) | ((with_reducible refine (high_at r rp _ ER.out ?_).mono ?_); exact hr; rintro e w' ⟨rfl, rfl⟩)))
  obtain ⟨W1, hW1⟩ : ∃ W1, W1 = ((w.setCell ⟨b, 4, none⟩ (.int .i64 (IntKind.i64.wrap (1 + imax (hiT l) (hiT r))))).setCell ⟨b, 3, none⟩ (.int .i64 a.t)).drew := ⟨_, rfl⟩
  rw [← hW1]
  have B1 : W1.heap[b]? = some (nodeO { a with high := 1 + max (hiT l) (hiT r), last := stg a.t l r 0 } (.pointer lp) (.pointer rp)) := by rw [hW1, ← HH.out]; exact node_set3 (node_set4 hb _) _
  have F1 : Fr (· = b) w W1 := by rw [hW1]; exact Fr.drew (Fr.setCell (F := (· = b)) (Fr.setCell (F := (· = b)) (Fr.refl _ w) (p := ⟨b, 4, none⟩) (fun _ => rfl) _) (p := ⟨b, 3, none⟩) (fun _ => rfl) _)
  have hl := hl.frame F1 (fun k hk e => nl (by rw [← e]; exact hk))
  have hr := hr.frame F1 (fun k hk e => nr (by rw [← e]; exact hk))
  clear hW1 c0 c1 c2 c3 c4 c5 c6 f3 f4 hb
  obtain ⟨_, _, _, _, _, c5, c6⟩ := node_cells B1
  clear HH
  go_wp2
  go_region_held3 (fun W => W.cell? ⟨b, 5, none⟩ = some (.pointer lp) ∧ W.cell? ⟨b, 6, none⟩ = some (.pointer rp)) (exact ⟨c5, c6⟩) (fail)
  obtain ⟨W2, hW2⟩ : ∃ W2, W2 = W1.drew := ⟨_, rfl⟩
  rw [← hW2]
  have B2 : FitAt w b { a with high := 1 + max (hiT l) (hiT r) } (stg a.t l r 0) lp rp W2 := by rw [hW2]; exact ⟨B1, F1.drew⟩
  have hl : rootIn W2 l := by rw [hW2]; exact hl
  have hr : rootIn W2 r := by rw [hW2]; exact hr
  clear hW2 B1 F1 c5 c6
  go_wp2
  go_loopw [37] (fun i wr => ∃ k : Nat, k ≤ 2 ∧ i = .int .i64 k ∧ FitAt w b { a with high := 1 + max (hiT l) (hiT r) } (stg a.t l r k) lp rp wr ∧ Fr (· = b) W2 wr) (fun i _ => 2 - (intOf i).toNat)
  case atStart => exact ⟨0, by omega, rfl, B2, Fr.refl _ _⟩
  case round =>
    obtain ⟨k, hk, rfl, hF, hF2⟩ := hrel
    obtain ⟨hB, hFr⟩ := hF
    have hl := hl.frame hF2 (fun k hk e => nl (by rw [← e]; exact hk))
    have hr := hr.frame hF2 (fun k hk e => nr (by rw [← e]; exact hk))
    obtain ⟨_, _, _, d3, _, _, _⟩ := node_cells hB
    have g3 := node_free hB 3
    match k, hk with
    | 0, _ =>
      rcases lp with _ | x
      · have e1 : stg a.t l r 1 = stg a.t l r 0 := la_none EL.out
        go_wp2
        exact ⟨⟨1, by omega, rfl, by rw [e1]; exact ⟨hB, hFr⟩, hF2⟩, by simp [intOf]⟩
      · obtain ⟨sb, sa, sl, sr, e1, rfl, hs⟩ := rootIn_some hl EL.out
        obtain ⟨_, _, _, s3, _, _, _⟩ := node_cells hs
        have e2 : stg a.t l r 1 = max (stg a.t l r 0) sa.last := by show laT _ l = _; rw [e1]; rfl
        have E2 := Lib.hid e2
        clear e1 e2
        go_wp2
        go_region
        go_wp2
        refine ⟨⟨1, by omega, rfl, ⟨?_, ?_⟩, ?_⟩, by simp [intOf]⟩
        · rw [E2.out]; exact node_set3 hB _
        · exact Fr.drew (Fr.setCell (F := (· = b)) hFr (p := ⟨b, 3, none⟩) (fun _ => rfl) _)
        · exact Fr.drew (Fr.setCell (F := (· = b)) hF2 (p := ⟨b, 3, none⟩) (fun _ => rfl) _)
    | 1, _ =>
      rcases rp with _ | x
      · have e1 : stg a.t l r 2 = stg a.t l r 1 := la_none ER.out
        go_wp2
        exact ⟨⟨2, by omega, rfl, by rw [e1]; exact ⟨hB, hFr⟩, hF2⟩, by simp [intOf]⟩
      · obtain ⟨sb, sa, sl, sr, e1, rfl, hs⟩ := rootIn_some hr ER.out
        obtain ⟨_, _, _, s3, _, _, _⟩ := node_cells hs
        have e2 : stg a.t l r 2 = max (stg a.t l r 1) sa.last := by show laT _ r = _; rw [e1]; rfl
        have E2 := Lib.hid e2
        clear e1 e2
        go_wp2
        go_region
        go_wp2
        refine ⟨⟨2, by omega, rfl, ⟨?_, ?_⟩, ?_⟩, by simp [intOf]⟩
        · rw [E2.out]; exact node_set3 hB _
        · exact Fr.drew (Fr.setCell (F := (· = b)) hFr (p := ⟨b, 3, none⟩) (fun _ => rfl) _)
        · exact Fr.drew (Fr.setCell (F := (· = b)) hF2 (p := ⟨b, 3, none⟩) (fun _ => rfl) _)
    | 2, _ =>
      go_wp2
      go_ret
      exact ⟨rfl, hB, hFr⟩
end Go.Proofs.Ytcdgochkcfogiaa
