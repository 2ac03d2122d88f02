/- What is wrong with a span of a number that is to come (Add). -/
import Derived.Test.YtcdgochkcfogiaaTreeK
namespace Go.Proofs.Ytcdgochkcfogiaa
open Go.RowKit Go.Deep Go.Shelf Go.Sort Go.Maps

def errV (n : Int) : Value := .iface 72 (.int .i64 n)
set_option maxRecDepth 100000 in
theorem tadd_range (id f to : Int) (w : World) (v : Value) (h : id < 0 ∨ 1048576 < id) :
    Calls Try.prog 28 #[v, .int .i64 id, .agg #[.int .i64 f, .int .i64 to]] w fun e w' => e = .returned (errV 2) ∧ Below w.heap.size w w' := by
  unfold errV
  by_cases h0 : id < 0
  · go_enter Try.func28, Try.ntmps28
    go_wp2_with fail
    go_ret
    exact ⟨rfl, (Below.refl _ _).alloc (Nat.le_refl _) _⟩
  · have h1 : 1048576 < id := by omega
    clear h
    go_enter Try.func28, Try.ntmps28
    go_wp2_with fail
    go_ret
    exact ⟨rfl, (Below.refl _ _).alloc (Nat.le_refl _) _⟩
set_option maxRecDepth 100000 in
theorem tadd_arg (id f to : Int) (w : World) (v : Value) (h0 : 0 ≤ id) (h1 : id ≤ 1048576) (hr : rightB f to = false) :
    Calls Try.prog 28 #[v, .int .i64 id, .agg #[.int .i64 f, .int .i64 to]] w fun e w' => e = .returned (errV 1) ∧ Below w.heap.size w w' := by
  unfold errV
  have hR := fun W => right_any f to W
  rw [hr] at hR
  clear hr
  go_enter Try.func28, Try.ntmps28
  go_wp2_with fail
  refine (hR _).mono ?_
  rintro e w1 ⟨rfl, b1⟩
  have B1 : Below w.heap.size w w1 := ((Below.refl _ w).alloc (Nat.le_refl _) _).trans (b1.mono (by simp))
  have HB1 := Lib.hid B1
  clear hR b1 B1
  go_wp2_with fail
  go_ret
  exact ⟨rfl, HB1.out⟩

set_option maxRecDepth 100000 in
set_option maxHeartbeats 2000000 in
theorem tadd_twice (id f to : Int) (w : World) (tb : Nat) (L : List It) (t : BT Nd) (mb : Option Nat) (h : TreeAt w tb L t mb) (h0 : 0 ≤ id) (h1 : id ≤ 1048576) (hr : rightB f to = true)
    (hx : L.any (fun y => y.2.1 == id) = true) :
    Calls Try.prog 28 #[.pointer (some ⟨tb, 0, none⟩), .int .i64 id, .agg #[.int .i64 f, .int .i64 to]] w fun e w' => e = .returned (errV 9) ∧ Below w.heap.size w w' := by
  unfold errV
  cases mb with
  | none =>
    have hL : L = [] := h.mp
    subst hL; cases hx
  | some m =>
    have hR := fun W => right_any f to W
    rw [hr] at hR
    have hi : i64 id := ⟨by omega, by omega⟩
    have HI := Lib.hid hi
    have HH := Lib.hid h
    have htb : tb < w.heap.size := h.lt tb (Or.inl rfl)
    have HX := Lib.hid hx
    have hc := h.cells
    obtain ⟨tp, et⟩ := ptr_some t
    rw [et] at hc
    have HC := Lib.hid hc
    clear hr hi h hx hc et
    go_enter Try.func28, Try.ntmps28
    go_wp2_with fail
    refine (hR _).mono ?_
    rintro e w1 ⟨rfl, b1⟩
    have B1 : Below w.heap.size w w1 := ((Below.refl _ w).alloc (Nat.le_refl _) _).trans (b1.mono (by simp))
    have hc1 := (B1.block tb htb).trans HC.out
    have H1 := HH.out.below B1
    obtain ⟨D, hown, hD⟩ := H1.mp
    have hhas : Maps.has D (.int .i64 id) = true := (hD.has id).trans HX.out
    have HHAS := Lib.hid hhas
    have HB1 := Lib.hid B1
    have hs1 := B1.size
    obtain ⟨c0, c1, f0, f1⟩ := tree_cells hc1
    have htb1 : tb < w1.heap.size := by omega
    clear b1 B1 hc1 hhas hD H1 hR
    go_wp2_with (at_lookup; refine wpList_lookup_own_ok _ rfl _ _ 47 rfl 3 23 intLaw Try.underlying47 spanR (zeroSpan _) (spanD 0 0) [] rfl m L.length D rfl hown _ _ rfl (keyOf_int_mk Try.underlying3 (wfI HI.out)) ?_; intro v ps hv; obtain ⟨vf, vt, rfl, hv2⟩ := spanR_inv hv; rw [HHAS.out]; clear hv hv2)
    go_ret
    exact ⟨rfl, HB1.out.alloc (by omega) _⟩

set_option maxRecDepth 100000 in
set_option maxHeartbeats 2000000 in
theorem tadd_full (id f to : Int) (w : World) (tb : Nat) (L : List It) (t : BT Nd) (mb : Option Nat) (h : TreeAt w tb L t mb) (h0 : 0 ≤ id) (h1 : id ≤ 1048576) (hr : rightB f to = true)
    (hx : L.any (fun y => y.2.1 == id) = false) (hl : 4000 ≤ L.length) :
    Calls Try.prog 28 #[.pointer (some ⟨tb, 0, none⟩), .int .i64 id, .agg #[.int .i64 f, .int .i64 to]] w fun e w' => e = .returned (errV 12) ∧ Below w.heap.size w w' := by
  unfold errV
  cases mb with
  | none =>
    have hL : L = [] := h.mp
    subst hL; simp at hl
  | some m =>
    have hR := fun W => right_any f to W
    rw [hr] at hR
    have hi : i64 id := ⟨by omega, by omega⟩
    have HI := Lib.hid hi
    have HH := Lib.hid h
    have htb : tb < w.heap.size := h.lt tb (Or.inl rfl)
    have HX := Lib.hid hx
    have hc := h.cells
    obtain ⟨tp, et⟩ := ptr_some t
    rw [et] at hc
    have HC := Lib.hid hc
    clear hr hi h hx hc et
    go_enter Try.func28, Try.ntmps28
    go_wp2_with fail
    refine (hR _).mono ?_
    rintro e w1 ⟨rfl, b1⟩
    have B1 : Below w.heap.size w w1 := ((Below.refl _ w).alloc (Nat.le_refl _) _).trans (b1.mono (by simp))
    have hc1 := (B1.block tb htb).trans HC.out
    have H1 := HH.out.below B1
    obtain ⟨D, hown, hD⟩ := H1.mp
    have hhas : Maps.has D (.int .i64 id) = false := (hD.has id).trans HX.out
    have hsz : 4000 ≤ Maps.size D := by rw [hD.size]; exact hl
    have HHAS := Lib.hid hhas
    have HB1 := Lib.hid B1
    have hs1 := B1.size
    obtain ⟨c0, c1, f0, f1⟩ := tree_cells hc1
    have htb1 : tb < w1.heap.size := by omega
    clear b1 B1 hc1 hhas hD H1 hR
    go_wp2_with (first
    | (at_lookup; refine wpList_lookup_own_ok _ rfl _ _ 47 rfl 3 23 intLaw Try.underlying47 spanR (zeroSpan _) (spanD 0 0) [] rfl m L.length D rfl hown _ _ rfl (keyOf_int_mk Try.underlying3 (wfI HI.out)) ?_; intro v ps hv; obtain ⟨vf, vt, rfl, hv2⟩ := spanR_inv hv; rw [HHAS.out]; clear hv hv2)
    | (at_len; refine wpList_len_own _ rfl _ 47 rfl 3 23 Try.underlying47 _ m L.length D rfl (hown.alloc _) ?_))
    go_ret
    exact ⟨rfl, HB1.out.alloc (by omega) _⟩
end Go.Proofs.Ytcdgochkcfogiaa
