/- Which span a number has (Tree.Span). -/
import Derived.Test.YtflhpmgjehjjkaaGreatDoorTreeSJp
namespace Go.Proofs.YtflhpmgjehjjkaaGreatDoor
open Go.RowKit Go.Deep Go.Shelf Go.Sort Go.Maps
def Two (base a b : Nat) (LA LB : List It) (w : World) : Prop :=
 ∃ ta ma tb mb, TreeAt w a LA ta ma /\ TreeAt w b LB tb mb /\ (∀ k, foot a ta ma k -> base <= k) /\ (∀ k, foot b tb mb k -> base <= k) /\ (∀ k, foot a ta ma k -> ¬ foot b tb mb k) /\ base <= w.heap.size
theorem Two.below {base a b : Nat} {LA LB : List It} {w w' : World} (h : Two base a b LA LB w) (hb : Below w.heap.size w w') : Two base a b LA LB w' := by
 obtain ⟨ta, ma, tb, mb, h1, h2, h3, h4, h5, h6⟩ := h
 exact ⟨ta, ma, tb, mb, h1.below hb, h2.below hb, h3, h4, h5, Nat.le_trans h6 hb.size⟩
theorem Two.drew {base a b : Nat} {LA LB : List It} {w : World} (h : Two base a b LA LB w) : Two base a b LA LB w.drew := h.below (Below.refl _ w).drew
set_option maxRecDepth 100000 in
set_option maxHeartbeats 2000000 in
theorem tspan_has (id f tz : Int) (hi : i64 id) (w : World) (tb : Nat) (L : List It) (t : BT Nd) (mb : Option Nat) (h : TreeAt w tb L t mb) (hx : (f, id, tz) ∈ L) :
  Calls Tryz.prog 95 #[.pointer (some ⟨tb, 0, none⟩), .int .i64 id] w fun e w' => e = .returned (.tuple #[.agg #[.int .i64 f, .int .i64 tz], .nilIface]) /\ Below w.heap.size w w' := by
 cases mb with
 | none => have hL : L = [] := h.mp; subst hL; cases hx
 | some m =>
   have HI := Lib.hid hi
   have htb : tb < w.heap.size := h.lt tb (Or.inl rfl)
   obtain ⟨D, hown, hD⟩ := h.mp
   have hhas : Maps.has D (.int .i64 id) = true := (hD.has id).trans (List.any_eq_true.2 ⟨_, hx, by simp⟩)
   have hat : D.atKey (.int .i64 id) (spanD 0 0) = spanD f tz := hD.at' (f, id, tz) hx _
   obtain ⟨tp, et⟩ := ptr_some t
   have hc := h.cells
   rw [et] at hc
   have c1 := (tree_cells hc).2.1
   have HHAS := Lib.hid hhas
   have HAT := Lib.hid hat
   clear hc et hi hx hhas hat hD h
   go_enter Tryz.func95, Tryz.ntmps95
   go_wp2_with (at_lookup; refine wpList_lookup_own_ok _ rfl _ _ 239 rfl 3 68 intLaw Tryz.underlying239 spanR (zeroSpan _) (spanD 0 0) [] rfl m L.length D rfl (hown.alloc _) _ _ rfl (keyOf_int_mk Tryz.underlying3 (wfI HI.out)) ?_; intro v ps hv; obtain ⟨vf, vt, rfl, hv2⟩ := spanR_inv hv; rw [HHAS.out]; have hv3 := spanD_inj (HAT.out.symm.trans (congrArg Prod.fst hv2)); obtain ⟨rfl, rfl⟩ := hv3; clear hv hv2)
   exact bodyPost_ret (v := .tuple #[.agg #[.int .i64 f, .int .i64 tz], .nilIface]) (by simp [results, Tryz.results95, go_sem]) rfl ⟨rfl, ((Below.refl _ w).alloc (Nat.le_refl _) _).alloc (by simp) _⟩
end Go.Proofs.YtflhpmgjehjjkaaGreatDoor
