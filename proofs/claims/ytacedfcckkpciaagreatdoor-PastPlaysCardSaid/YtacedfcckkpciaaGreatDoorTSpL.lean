/- Which span a number has (Tree.Span). -/
import Derived.Test.YtacedfcckkpciaaGreatDoorTreeSL
namespace Go.Proofs.YtacedfcckkpciaaGreatDoor
open Go.RowKit Go.Deep Go.Shelf Go.Sort Go.Maps

theorem TreeAt.permL {w : World} {tb : Nat} {L L' : List It} {t : BT Nd} {mb : Option Nat} (h : TreeAt w tb L t mb) (hp : L.Perm L') : TreeAt w tb L' t mb :=
  ⟨h.cells, h.tin, h.sep, h.fit, h.bal, h.srt, h.ids, h.perm.trans hp, by
    have := h.mp
    cases mb with
    | none => have hL : L = [] := this; subst hL; exact hp.symm.eq_nil
    | some m => obtain ⟨D, h1, h2⟩ := this; exact ⟨D, hp.length_eq ▸ h1, h2.perm hp⟩, h.nt, h.nm⟩

def Two (base a b : Nat) (LA LB : List It) (w : World) : Prop :=
  ∃ ta ma tb mb, TreeAt w a LA ta ma ∧ TreeAt w b LB tb mb ∧ (∀ k, foot a ta ma k → base ≤ k) ∧ (∀ k, foot b tb mb k → base ≤ k) ∧ (∀ k, foot a ta ma k → ¬ foot b tb mb k) ∧ base ≤ w.heap.size
theorem Two.below {base a b : Nat} {LA LB : List It} {w w' : World} (h : Two base a b LA LB w) (hb : Below w.heap.size w w') : Two base a b LA LB w' := by
  obtain ⟨ta, ma, tb, mb, h1, h2, h3, h4, h5, h6⟩ := h
  exact ⟨ta, ma, tb, mb, h1.below hb, h2.below hb, h3, h4, h5, Nat.le_trans h6 hb.size⟩
theorem Two.drew {base a b : Nat} {LA LB : List It} {w : World} (h : Two base a b LA LB w) : Two base a b LA LB w.drew := h.below (Below.refl _ w).drew
theorem Two.permA {base a b : Nat} {LA LB LA' : List It} {w : World} (h : Two base a b LA LB w) (hp : LA.Perm LA') : Two base a b LA' LB w := by
  obtain ⟨ta, ma, tb, mb, h1, h2, r⟩ := h; exact ⟨ta, ma, tb, mb, h1.permL hp, h2, r⟩
theorem Two.permB {base a b : Nat} {LA LB LB' : List It} {w : World} (h : Two base a b LA LB w) (hp : LB.Perm LB') : Two base a b LA LB' w := by
  obtain ⟨ta, ma, tb, mb, h1, h2, r⟩ := h; exact ⟨ta, ma, tb, mb, h1, h2.permL hp, r⟩
theorem Two.base_le {base a b : Nat} {LA LB : List It} {w : World} (h : Two base a b LA LB w) : base ≤ w.heap.size := let ⟨_, _, _, _, _, _, _, _, _, h6⟩ := h; h6

theorem two_new (w : World) : Two w.heap.size w.heap.size (w.heap.size + 1) [] [] ((w.alloc (.cells #[.pointer none, .map none] 148)).alloc (.cells #[.pointer none, .map none] 148)) := by
  refine ⟨.nil, none, .nil, none, tree_new (block_alloc (block_alloc_new w _) _), tree_new (new_node w _ _ rfl), ?_, ?_, ?_, by simp; omega⟩
  · rintro k (e | e | e); omega; cases e; cases e
  · rintro k (e | e | e); omega; cases e; cases e
  · rintro k (e | e | e) (e' | e' | e')
    · omega
    all_goals (first | (cases e'; done) | (cases e; done))

theorem two_addA {base a b : Nat} {LA LB : List It} {w : World} (h : Two base a b LA LB w) (id f to : Int) (h0 : 0 ≤ id) (h1 : id ≤ 1048576) (hr : rightB f to = true) (hx : LA.any (fun y => y.2.1 == id) = false) (hl : LA.length < 4000) :
    Calls Tryz.prog 103 #[.pointer (some ⟨a, 0, none⟩), .int .i64 id, .agg #[.int .i64 f, .int .i64 to]] w fun e w' => e = .returned .nilIface ∧ Two base a b ((f, id, to) :: LA) LB w' ∧ Below base w w' := by
  obtain ⟨ta, ma, tb, mb, g1, g2, g3, g4, g5, g6⟩ := h
  refine (tadd_ok id f to w a LA ta ma g1 h0 h1 hr hx hl).mono ?_
  rintro e w' ⟨t', m', rfl, T', F', S'⟩
  refine ⟨rfl, ⟨t', m', tb, mb, T', g2.frame F' (fun k hk hf => g5 k hf hk), ?_, g4, ?_, Nat.le_trans g6 F'.size⟩, F'.below (fun k _ e => g3 k e) g6⟩
  · intro k hk
    rcases S' k hk with e | e
    · exact g3 k e
    · omega
  · intro k hk hf
    rcases S' k hk with e | e
    · exact g5 k e hf
    · have := g2.lt k hf; omega
theorem two_addB {base a b : Nat} {LA LB : List It} {w : World} (h : Two base a b LA LB w) (id f to : Int) (h0 : 0 ≤ id) (h1 : id ≤ 1048576) (hr : rightB f to = true) (hx : LB.any (fun y => y.2.1 == id) = false) (hl : LB.length < 4000) :
    Calls Tryz.prog 103 #[.pointer (some ⟨b, 0, none⟩), .int .i64 id, .agg #[.int .i64 f, .int .i64 to]] w fun e w' => e = .returned .nilIface ∧ Two base a b LA ((f, id, to) :: LB) w' ∧ Below base w w' := by
  obtain ⟨ta, ma, tb, mb, g1, g2, g3, g4, g5, g6⟩ := h
  refine (tadd_ok id f to w b LB tb mb g2 h0 h1 hr hx hl).mono ?_
  rintro e w' ⟨t', m', rfl, T', F', S'⟩
  refine ⟨rfl, ⟨ta, ma, t', m', g1.frame F' (fun k hk hf => g5 k hk hf), T', g3, ?_, ?_, Nat.le_trans g6 F'.size⟩, F'.below (fun k _ e => g4 k e) g6⟩
  · intro k hk
    rcases S' k hk with e | e
    · exact g4 k e
    · omega
  · intro k hk hf
    rcases S' k hf with e | e
    · exact g5 k hk e
    · have := g1.lt k hk; omega
theorem two_dropB {base a b : Nat} {LA LB : List It} {w : World} (id f to : Int) (hi : i64 id) (h : Two base a b LA ((f, id, to) :: LB) w) (hl : LB.length < 4000) :
    Calls Tryz.prog 40 #[.pointer (some ⟨b, 0, none⟩), .int .i64 id] w fun e w' => e = .returned .nilIface ∧ Two base a b LA LB w' ∧ Below base w w' := by
  obtain ⟨ta, ma, tb, mb, g1, g2, g3, g4, g5, g6⟩ := h
  refine (tdrop_ok id f to hi w b LB tb mb g2 hl).mono ?_
  rintro e w' ⟨t', m', rfl, T', F', S'⟩
  exact ⟨rfl, ⟨ta, ma, t', m', g1.frame F' (fun k hk hf => g5 k hk hf), T', g3, fun k hk => g4 k (S' k hk), fun k hk hf => g5 k hk (S' k hf), Nat.le_trans g6 F'.size⟩, F'.below (fun k _ e => g4 k e) g6⟩
def Ints (w : World) (l : List Int) (e : Ending) (w' : World) : Prop := ∃ ao cap, e = .returned (.slice ao l.length cap) ∧ intsAt w' ao l ∧ Below w.heap.size w w'
theorem two_atA {base a b : Nat} {LA LB : List It} {w : World} (h : Two base a b LA LB w) (x : Int) (hl : LA.length < 4294967296) : Calls Tryz.prog 30 #[.pointer (some ⟨a, 0, none⟩), .int .i64 x] w (Ints w (atL LA x)) := by
  obtain ⟨ta, ma, tb, mb, g1, g2, _⟩ := h
  refine (tat_any x w a LA ta ma g1 hl).mono ?_
  rintro e w' ⟨v, rfl, own, b⟩
  obtain ⟨ao, cap, rfl, hi⟩ := ownsRow_ints own
  exact ⟨ao, cap, rfl, hi, b⟩
theorem two_atB {base a b : Nat} {LA LB : List It} {w : World} (h : Two base a b LA LB w) (x : Int) (hl : LB.length < 4294967296) : Calls Tryz.prog 30 #[.pointer (some ⟨b, 0, none⟩), .int .i64 x] w (Ints w (atL LB x)) := by
  obtain ⟨ta, ma, tb, mb, g1, g2, _⟩ := h
  refine (tat_any x w b LB tb mb g2 hl).mono ?_
  rintro e w' ⟨v, rfl, own, b⟩
  obtain ⟨ao, cap, rfl, hi⟩ := ownsRow_ints own
  exact ⟨ao, cap, rfl, hi, b⟩
theorem two_meetsA {base a b : Nat} {LA LB : List It} {w : World} (h : Two base a b LA LB w) (f t : Int) (hl : LA.length < 4294967296) : Calls Tryz.prog 37 #[.pointer (some ⟨a, 0, none⟩), .agg #[.int .i64 f, .int .i64 t]] w (Ints w (meetsL LA f t)) := by
  obtain ⟨ta, ma, tb, mb, g1, g2, _⟩ := h
  refine (tmeets_any f t w a LA ta ma g1 hl).mono ?_
  rintro e w' ⟨v, rfl, own, b⟩
  obtain ⟨ao, cap, rfl, hi⟩ := ownsRow_ints own
  exact ⟨ao, cap, rfl, hi, b⟩
theorem two_meetsB {base a b : Nat} {LA LB : List It} {w : World} (h : Two base a b LA LB w) (f t : Int) (hl : LB.length < 4294967296) : Calls Tryz.prog 37 #[.pointer (some ⟨b, 0, none⟩), .agg #[.int .i64 f, .int .i64 t]] w (Ints w (meetsL LB f t)) := by
  obtain ⟨ta, ma, tb, mb, g1, g2, _⟩ := h
  refine (tmeets_any f t w b LB tb mb g2 hl).mono ?_
  rintro e w' ⟨v, rfl, own, b⟩
  obtain ⟨ao, cap, rfl, hi⟩ := ownsRow_ints own
  exact ⟨ao, cap, rfl, hi, b⟩
end Go.Proofs.YtacedfcckkpciaaGreatDoor

namespace Go.Proofs.YtacedfcckkpciaaGreatDoor
open Go.RowKit Go.Deep Go.Shelf Go.Sort Go.Maps

def errVal (n : Int) : Value := if n = 0 then .nilIface else errV n
/-- What Span answers: the span of that number, if it is there. -/
def findL (L : List It) (id : Int) : Option It := L.find? (fun y => y.2.1 == id)

set_option maxRecDepth 100000 in
set_option maxHeartbeats 2000000 in
theorem tspan_has (id f to : Int) (hi : i64 id) (w : World) (tb : Nat) (L : List It) (t : BT Nd) (mb : Option Nat) (h : TreeAt w tb L t mb) (hx : (f, id, to) ∈ L) :
    Calls Tryz.prog 64 #[.pointer (some ⟨tb, 0, none⟩), .int .i64 id] w fun e w' => e = .returned (.tuple #[.agg #[.int .i64 f, .int .i64 to], .nilIface]) ∧ Below w.heap.size w w' := by
  cases mb with
  | none => have hL : L = [] := h.mp; subst hL; cases hx
  | some m =>
    have HI := Lib.hid hi
    have htb : tb < w.heap.size := h.lt tb (Or.inl rfl)
    obtain ⟨D, hown, hD⟩ := h.mp
    have hhas : Maps.has D (.int .i64 id) = true := (hD.has id).trans (List.any_eq_true.2 ⟨_, hx, by simp⟩)
    have hat : D.atKey (.int .i64 id) (spanD 0 0) = spanD f to := hD.at' (f, id, to) hx _
    obtain ⟨tp, et⟩ := ptr_some t
    have hc := h.cells
    rw [et] at hc
    have c1 := (tree_cells hc).2.1
    have HHAS := Lib.hid hhas
    have HAT := Lib.hid hat
    clear hc et hi hx hhas hat hD h
    go_enter Tryz.func64, Tryz.ntmps64
    go_wp2_with (at_lookup; refine wpList_lookup_own_ok _ rfl _ _ 146 rfl 3 44 intLaw Tryz.underlying146 spanR (zeroSpan _) (spanD 0 0) [] rfl m L.length D rfl (hown.alloc _) _ _ rfl (keyOf_int_mk Tryz.underlying3 (wfI HI.out)) ?_; intro v ps hv; obtain ⟨vf, vt, rfl, hv2⟩ := spanR_inv hv; rw [HHAS.out]; have hv3 := spanD_inj (HAT.out.symm.trans (congrArg Prod.fst hv2)); obtain ⟨rfl, rfl⟩ := hv3; clear hv hv2)
    exact bodyPost_ret (v := .tuple #[.agg #[.int .i64 f, .int .i64 to], .nilIface]) (by simp [results, Tryz.results64, go_sem]) rfl ⟨rfl, ((Below.refl _ w).alloc (Nat.le_refl _) _).alloc (by simp) _⟩
set_option maxRecDepth 100000 in
set_option maxHeartbeats 2000000 in
theorem tspan_none (id : Int) (hi : i64 id) (w : World) (tb : Nat) (L : List It) (t : BT Nd) (mb : Option Nat) (h : TreeAt w tb L t mb) (hx : L.any (fun y => y.2.1 == id) = false) :
    Calls Tryz.prog 64 #[.pointer (some ⟨tb, 0, none⟩), .int .i64 id] w fun e w' => e = .returned (.tuple #[.agg #[.int .i64 0, .int .i64 0], errV 7]) ∧ Below w.heap.size w w' := by
  unfold errV
  have HI := Lib.hid hi
  have htb : tb < w.heap.size := h.lt tb (Or.inl rfl)
  have hc := h.cells
  obtain ⟨tp, et⟩ := ptr_some t
  rw [et] at hc
  have c1 := (tree_cells hc).2.1
  cases mb with
  | none =>
    have hln := fun W => lookNil id hi W
    clear hc et hx h hi
    go_enter Tryz.func64, Tryz.ntmps64
    go_wp2_with fail
    exact bodyPost_ret (v := .tuple #[.agg #[.int .i64 0, .int .i64 0], .iface 62 (.int .i64 7)]) (by simp [results, Tryz.results64, go_sem]) rfl ⟨rfl, ((Below.refl _ w).alloc (Nat.le_refl _) _).alloc (by simp) _⟩
  | some m =>
    obtain ⟨D, hown, hD⟩ := h.mp
    have hhas : Maps.has D (.int .i64 id) = false := (hD.has id).trans hx
    have HHAS := Lib.hid hhas
    clear hc et hx h hhas hD hi
    go_enter Tryz.func64, Tryz.ntmps64
    go_wp2_with (at_lookup; refine wpList_lookup_own_ok _ rfl _ _ 146 rfl 3 44 intLaw Tryz.underlying146 spanR (zeroSpan _) (spanD 0 0) [] rfl m L.length D rfl (hown.alloc _) _ _ rfl (keyOf_int_mk Tryz.underlying3 (wfI HI.out)) ?_; intro v ps hv; obtain ⟨vf, vt, rfl, hv2⟩ := spanR_inv hv; rw [HHAS.out]; clear hv hv2)
    exact bodyPost_ret (v := .tuple #[.agg #[.int .i64 0, .int .i64 0], .iface 62 (.int .i64 7)]) (by simp [results, Tryz.results64, go_sem]) rfl ⟨rfl, ((Below.refl _ w).alloc (Nat.le_refl _) _).alloc (by simp) _⟩

end Go.Proofs.YtacedfcckkpciaaGreatDoor
