/- Two Trees that share nothing. -/
import Derived.Test.YtgbbldbkkmjedaaDoorTreeS
namespace Go.Proofs.YtgbbldbkkmjedaaDoor
open Go.RowKit Go.Deep Go.Shelf Go.Sort Go.Maps

theorem TreeAt.permL {w : World} {tb : Nat} {L L' : List It} {t : BT Nd} {mb : Option Nat} (h : TreeAt w tb L t mb) (hp : L.Perm L') : TreeAt w tb L' t mb :=
  ⟨h.cells, h.tin, h.sep, h.fit, h.bal, h.srt, h.ids, h.perm.trans hp, by
    have := h.mp
    cases mb with
    | none => have hL : L = [] := this; subst hL; exact hp.symm.eq_nil
    | some m => obtain ⟨D, h1, h2⟩ := this; exact ⟨D, hp.length_eq ▸ h1, h2.perm hp⟩, h.nt, h.nm⟩

def Two (base a b : Nat) (LA LB : List It) (w : World) : Prop :=
  ∃ ta ma tb mb, TreeAt w a LA ta ma ∧ TreeAt w b LB tb mb ∧ (∀ k, foot a ta ma k → base ≤ k) ∧ (∀ k, foot b tb mb k → base ≤ k) ∧ (∀ k, foot a ta ma k → ¬ foot b tb mb k) ∧ base ≤ w.heap.size
theorem Two.below {base a b : Nat} {LA LB : List It} {w w' : World} (h : Two base a b LA LB w) (hb : Below w.heap.size w w') : Two base a b LA LB w' := by
  obtain ⟨ta, ma, tb, mb, h1, h2, h3, h4, h5, h6⟩ := h
  exact ⟨ta, ma, tb, mb, h1.below hb, h2.below hb, h3, h4, h5, Nat.le_trans h6 hb.size⟩
theorem Two.drew {base a b : Nat} {LA LB : List It} {w : World} (h : Two base a b LA LB w) : Two base a b LA LB w.drew := h.below (Below.refl _ w).drew
theorem Two.permA {base a b : Nat} {LA LB LA' : List It} {w : World} (h : Two base a b LA LB w) (hp : LA.Perm LA') : Two base a b LA' LB w := by
  obtain ⟨ta, ma, tb, mb, h1, h2, r⟩ := h; exact ⟨ta, ma, tb, mb, h1.permL hp, h2, r⟩
theorem Two.permB {base a b : Nat} {LA LB LB' : List It} {w : World} (h : Two base a b LA LB w) (hp : LB.Perm LB') : Two base a b LA LB' w := by
  obtain ⟨ta, ma, tb, mb, h1, h2, r⟩ := h; exact ⟨ta, ma, tb, mb, h1, h2.permL hp, r⟩
theorem Two.base_le {base a b : Nat} {LA LB : List It} {w : World} (h : Two base a b LA LB w) : base ≤ w.heap.size := let ⟨_, _, _, _, _, _, _, _, _, h6⟩ := h; h6

theorem two_new (w : World) : Two w.heap.size w.heap.size (w.heap.size + 1) [] [] ((w.alloc (.cells #[.pointer none, .map none] 26)).alloc (.cells #[.pointer none, .map none] 26)) := by
  refine ⟨.nil, none, .nil, none, tree_new (block_alloc (block_alloc_new w _) _), tree_new (new_node w _ _ rfl), ?_, ?_, ?_, by simp; omega⟩
  · rintro k (e | e | e); omega; cases e; cases e
  · rintro k (e | e | e); omega; cases e; cases e
  · rintro k (e | e | e) (e' | e' | e')
    · omega
    all_goals (first | (cases e'; done) | (cases e; done))

theorem two_addA {base a b : Nat} {LA LB : List It} {w : World} (h : Two base a b LA LB w) (id f to : Int) (h0 : 0 ≤ id) (h1 : id ≤ 1048576) (hr : rightB f to = true) (hx : LA.any (fun y => y.2.1 == id) = false) (hl : LA.length < 4000) :
    Calls Tryd.prog 8 #[.pointer (some ⟨a, 0, none⟩), .int .i64 id, .agg #[.int .i64 f, .int .i64 to]] w fun e w' => e = .returned .nilIface ∧ Two base a b ((f, id, to) :: LA) LB w' ∧ Below base w w' := by
  obtain ⟨ta, ma, tb, mb, g1, g2, g3, g4, g5, g6⟩ := h
  refine (tadd_ok id f to w a LA ta ma g1 h0 h1 hr hx hl).mono ?_
  rintro e w' ⟨t', m', rfl, T', F', S'⟩
  refine ⟨rfl, ⟨t', m', tb, mb, T', g2.frame F' (fun k hk hf => g5 k hf hk), ?_, g4, ?_, Nat.le_trans g6 F'.size⟩, F'.below (fun k _ e => g3 k e) g6⟩
  · intro k hk
    rcases S' k hk with e | e
    · exact g3 k e
    · omega
  · intro k hk hf
    rcases S' k hk with e | e
    · exact g5 k e hf
    · have := g2.lt k hf; omega
theorem two_addB {base a b : Nat} {LA LB : List It} {w : World} (h : Two base a b LA LB w) (id f to : Int) (h0 : 0 ≤ id) (h1 : id ≤ 1048576) (hr : rightB f to = true) (hx : LB.any (fun y => y.2.1 == id) = false) (hl : LB.length < 4000) :
    Calls Tryd.prog 8 #[.pointer (some ⟨b, 0, none⟩), .int .i64 id, .agg #[.int .i64 f, .int .i64 to]] w fun e w' => e = .returned .nilIface ∧ Two base a b LA ((f, id, to) :: LB) w' ∧ Below base w w' := by
  obtain ⟨ta, ma, tb, mb, g1, g2, g3, g4, g5, g6⟩ := h
  refine (tadd_ok id f to w b LB tb mb g2 h0 h1 hr hx hl).mono ?_
  rintro e w' ⟨t', m', rfl, T', F', S'⟩
  refine ⟨rfl, ⟨ta, ma, t', m', g1.frame F' (fun k hk hf => g5 k hk hf), T', g3, ?_, ?_, Nat.le_trans g6 F'.size⟩, F'.below (fun k _ e => g4 k e) g6⟩
  · intro k hk
    rcases S' k hk with e | e
    · exact g4 k e
    · omega
  · intro k hk hf
    rcases S' k hf with e | e
    · exact g5 k hk e
    · have := g1.lt k hk; omega
theorem two_dropB {base a b : Nat} {LA LB : List It} {w : World} (id f to : Int) (hi : i64 id) (h : Two base a b LA ((f, id, to) :: LB) w) (hl : LB.length < 4000) :
    Calls Tryd.prog 12 #[.pointer (some ⟨b, 0, none⟩), .int .i64 id] w fun e w' => e = .returned .nilIface ∧ Two base a b LA LB w' ∧ Below base w w' := by
  obtain ⟨ta, ma, tb, mb, g1, g2, g3, g4, g5, g6⟩ := h
  refine (tdrop_ok id f to hi w b LB tb mb g2 hl).mono ?_
  rintro e w' ⟨t', m', rfl, T', F', S'⟩
  exact ⟨rfl, ⟨ta, ma, t', m', g1.frame F' (fun k hk hf => g5 k hk hf), T', g3, fun k hk => g4 k (S' k hk), fun k hk hf => g5 k hk (S' k hf), Nat.le_trans g6 F'.size⟩, F'.below (fun k _ e => g4 k e) g6⟩
theorem two_manyA {base a b : Nat} {LA LB : List It} {w : World} (h : Two base a b LA LB w) : Calls Tryd.prog 19 #[.pointer (some ⟨a, 0, none⟩)] w fun e w' => e = .returned (.int .i64 (LA.length : Int)) ∧ w = w' := by
  obtain ⟨ta, ma, tb, mb, g1, g2, _⟩ := h
  exact many_any w a LA ta ma g1
theorem two_manyB {base a b : Nat} {LA LB : List It} {w : World} (h : Two base a b LA LB w) : Calls Tryd.prog 19 #[.pointer (some ⟨b, 0, none⟩)] w fun e w' => e = .returned (.int .i64 (LB.length : Int)) ∧ w = w' := by
  obtain ⟨ta, ma, tb, mb, g1, g2, _⟩ := h
  exact many_any w b LB tb mb g2
def Ints (w : World) (l : List Int) (e : Ending) (w' : World) : Prop := ∃ ao cap, e = .returned (.slice ao l.length cap) ∧ intsAt w' ao l ∧ Below w.heap.size w w'
theorem two_atA {base a b : Nat} {LA LB : List It} {w : World} (h : Two base a b LA LB w) (x : Int) (hl : LA.length < 4294967296) : Calls Tryd.prog 17 #[.pointer (some ⟨a, 0, none⟩), .int .i64 x] w (Ints w (atL LA x)) := by
  obtain ⟨ta, ma, tb, mb, g1, g2, _⟩ := h
  refine (tat_any x w a LA ta ma g1 hl).mono ?_
  rintro e w' ⟨v, rfl, own, b⟩
  obtain ⟨ao, cap, rfl, hi⟩ := ownsRow_ints own
  exact ⟨ao, cap, rfl, hi, b⟩
theorem two_atB {base a b : Nat} {LA LB : List It} {w : World} (h : Two base a b LA LB w) (x : Int) (hl : LB.length < 4294967296) : Calls Tryd.prog 17 #[.pointer (some ⟨b, 0, none⟩), .int .i64 x] w (Ints w (atL LB x)) := by
  obtain ⟨ta, ma, tb, mb, g1, g2, _⟩ := h
  refine (tat_any x w b LB tb mb g2 hl).mono ?_
  rintro e w' ⟨v, rfl, own, b⟩
  obtain ⟨ao, cap, rfl, hi⟩ := ownsRow_ints own
  exact ⟨ao, cap, rfl, hi, b⟩
theorem two_meetsA {base a b : Nat} {LA LB : List It} {w : World} (h : Two base a b LA LB w) (f t : Int) (hl : LA.length < 4294967296) : Calls Tryd.prog 15 #[.pointer (some ⟨a, 0, none⟩), .agg #[.int .i64 f, .int .i64 t]] w (Ints w (meetsL LA f t)) := by
  obtain ⟨ta, ma, tb, mb, g1, g2, _⟩ := h
  refine (tmeets_any f t w a LA ta ma g1 hl).mono ?_
  rintro e w' ⟨v, rfl, own, b⟩
  obtain ⟨ao, cap, rfl, hi⟩ := ownsRow_ints own
  exact ⟨ao, cap, rfl, hi, b⟩
theorem two_meetsB {base a b : Nat} {LA LB : List It} {w : World} (h : Two base a b LA LB w) (f t : Int) (hl : LB.length < 4294967296) : Calls Tryd.prog 15 #[.pointer (some ⟨b, 0, none⟩), .agg #[.int .i64 f, .int .i64 t]] w (Ints w (meetsL LB f t)) := by
  obtain ⟨ta, ma, tb, mb, g1, g2, _⟩ := h
  refine (tmeets_any f t w b LB tb mb g2 hl).mono ?_
  rintro e w' ⟨v, rfl, own, b⟩
  obtain ⟨ao, cap, rfl, hi⟩ := ownsRow_ints own
  exact ⟨ao, cap, rfl, hi, b⟩
end Go.Proofs.YtgbbldbkkmjedaaDoor
