/- A Tree: the span of a number; how high; what Add and Drop answer in every case. -/
import Derived.Test.YtgbbldbkkmjedaaDoorTreeT
import Derived.Test.YtgbbldbkkmjedaaDoorRefE
import Derived.Test.YtgbbldbkkmjedaaDoorRefI
namespace Go.Proofs.YtgbbldbkkmjedaaDoor
open Go.RowKit Go.Deep Go.Shelf Go.Sort Go.Maps

def errVal (n : Int) : Value := if n = 0 then .nilIface else errV n
/-- What Span answers: the span of that number, if it is there. -/
def findL (L : List It) (id : Int) : Option It := L.find? (fun y => y.2.1 == id)

set_option maxRecDepth 100000 in
set_option maxHeartbeats 2000000 in
theorem tspan_has (id f to : Int) (hi : i64 id) (w : World) (tb : Nat) (L : List It) (t : BT Nd) (mb : Option Nat) (h : TreeAt w tb L t mb) (hx : (f, id, to) ∈ L) :
    Calls Tryd.prog 11 #[.pointer (some ⟨tb, 0, none⟩), .int .i64 id] w fun e w' => e = .returned (.tuple #[.agg #[.int .i64 f, .int .i64 to], .nilIface]) ∧ Below w.heap.size w w' := by
  cases mb with
  | none => have hL : L = [] := h.mp; subst hL; cases hx
  | some m =>
    have HI := Lib.hid hi
    have htb : tb < w.heap.size := h.lt tb (Or.inl rfl)
    obtain ⟨D, hown, hD⟩ := h.mp
    have hhas : Maps.has D (.int .i64 id) = true := (hD.has id).trans (List.any_eq_true.2 ⟨_, hx, by simp⟩)
    have hat : D.atKey (.int .i64 id) (spanD 0 0) = spanD f to := hD.at' (f, id, to) hx _
    obtain ⟨tp, et⟩ := ptr_some t
    have hc := h.cells
    rw [et] at hc
    have c1 := (tree_cells hc).2.1
    have HHAS := Lib.hid hhas
    have HAT := Lib.hid hat
    clear hc et hi hx hhas hat hD h
    go_enter Tryd.func11, Tryd.ntmps11
    go_wp2_with (at_lookup; refine wpList_lookup_own_ok _ rfl _ _ 24 rfl 3 34 intLaw Tryd.underlying24 spanR (zeroSpan _) (spanD 0 0) [] rfl m L.length D rfl (hown.alloc _) _ _ rfl (keyOf_int_mk Tryd.underlying3 (wfI HI.out)) ?_; intro v ps hv; obtain ⟨vf, vt, rfl, hv2⟩ := spanR_inv hv; rw [HHAS.out]; have hv3 := spanD_inj (HAT.out.symm.trans (congrArg Prod.fst hv2)); obtain ⟨rfl, rfl⟩ := hv3; clear hv hv2)
    exact bodyPost_ret (v := .tuple #[.agg #[.int .i64 f, .int .i64 to], .nilIface]) (by simp [results, Tryd.results11, go_sem]) rfl ⟨rfl, ((Below.refl _ w).alloc (Nat.le_refl _) _).alloc (by simp) _⟩
set_option maxRecDepth 100000 in
set_option maxHeartbeats 2000000 in
theorem tspan_none (id : Int) (hi : i64 id) (w : World) (tb : Nat) (L : List It) (t : BT Nd) (mb : Option Nat) (h : TreeAt w tb L t mb) (hx : L.any (fun y => y.2.1 == id) = false) :
    Calls Tryd.prog 11 #[.pointer (some ⟨tb, 0, none⟩), .int .i64 id] w fun e w' => e = .returned (.tuple #[.agg #[.int .i64 0, .int .i64 0], errV 7]) ∧ Below w.heap.size w w' := by
  unfold errV
  have HI := Lib.hid hi
  have htb : tb < w.heap.size := h.lt tb (Or.inl rfl)
  have hc := h.cells
  obtain ⟨tp, et⟩ := ptr_some t
  rw [et] at hc
  have c1 := (tree_cells hc).2.1
  cases mb with
  | none =>
    have hln := fun W => lookNil id hi W
    clear hc et hx h hi
    go_enter Tryd.func11, Tryd.ntmps11
    go_wp2_with fail
    exact bodyPost_ret (v := .tuple #[.agg #[.int .i64 0, .int .i64 0], .iface 39 (.int .i64 7)]) (by simp [results, Tryd.results11, go_sem]) rfl ⟨rfl, ((Below.refl _ w).alloc (Nat.le_refl _) _).alloc (by simp) _⟩
  | some m =>
    obtain ⟨D, hown, hD⟩ := h.mp
    have hhas : Maps.has D (.int .i64 id) = false := (hD.has id).trans hx
    have HHAS := Lib.hid hhas
    clear hc et hx h hhas hD hi
    go_enter Tryd.func11, Tryd.ntmps11
    go_wp2_with (at_lookup; refine wpList_lookup_own_ok _ rfl _ _ 24 rfl 3 34 intLaw Tryd.underlying24 spanR (zeroSpan _) (spanD 0 0) [] rfl m L.length D rfl (hown.alloc _) _ _ rfl (keyOf_int_mk Tryd.underlying3 (wfI HI.out)) ?_; intro v ps hv; obtain ⟨vf, vt, rfl, hv2⟩ := spanR_inv hv; rw [HHAS.out]; clear hv hv2)
    exact bodyPost_ret (v := .tuple #[.agg #[.int .i64 0, .int .i64 0], .iface 39 (.int .i64 7)]) (by simp [results, Tryd.results11, go_sem]) rfl ⟨rfl, ((Below.refl _ w).alloc (Nat.le_refl _) _).alloc (by simp) _⟩

theorem thigh_any (w : World) (tb : Nat) (L : List It) (t : BT Nd) (mb : Option Nat) (h : TreeAt w tb L t mb) :
    Calls Tryd.prog 20 #[.pointer (some ⟨tb, 0, none⟩)] w fun e w' => e = .returned (.int .i64 (hiT t)) ∧ w = w' := by
  have hc := h.cells
  have hH := high_any t w h.tin.root
  obtain ⟨tp, et⟩ := ptr_some t
  rw [et] at hc hH
  have c0 := (tree_cells hc).1
  clear hc et h
  go_enter Tryd.func20, Tryd.ntmps20
  go_wp2_with fail
  refine hH.mono ?_
  rintro e w1 ⟨rfl, rfl⟩
  go_wp2_with fail
  go_ret
  exact ⟨rfl, rfl⟩
end Go.Proofs.YtgbbldbkkmjedaaDoor
