/- PastPlays: lists that are the same compare as the same. -/
import Derived.Test.YtflhpmgjehjjkaaGreatDoorPcEqJp
import Derived.Test.YtflhpmgjehjjkaaGreatDoorPwMJp
import Derived.Test.YtflhpmgjehjjkaaGreatDoorClsJp
namespace Go.Proofs.YtflhpmgjehjjkaaGreatDoor
open Go.RowKit Go.Deep Go.Shelf Go.Sort Go.Maps
def KeysIn (w : World) (ao : Option Addr) (l : List KeyP) : Prop := ∀ j p, l[j]? = some p -> ∃ b, ao = some ⟨b, 0, none⟩ /\ w.cell? ⟨b, j * 4, none⟩ = some (.int .i64 p.kind) /\ w.cell? ⟨b, j * 4 + 1, none⟩ = some (.int .i64 p.a) /\ w.cell? ⟨b, j * 4 + 2, none⟩ = some (.string p.word) /\ w.cell? ⟨b, j * 4 + 3, none⟩ = some (.int .i64 p.b)
theorem flatKeys_at : ∀ (l : List KeyP) (i : Nat) (p : KeyP), l[i]? = some p -> (flatKeys l)[i * 4]? = some (.int .i64 p.kind) /\ (flatKeys l)[i * 4 + 1]? = some (.int .i64 p.a) /\ (flatKeys l)[i * 4 + 2]? = some (.string p.word) /\ (flatKeys l)[i * 4 + 3]? = some (.int .i64 p.b)
 | [], i, p, h => by simp at h
 | q :: l, 0, p, h => by simp at h; subst h; simp [flatKeys, encK]
 | q :: l, i + 1, p, h => by
   have := flatKeys_at l i p (by simpa using h)
   rw [show (i + 1) * 4 = i * 4 + 4 by omega, show i * 4 + 4 + 1 = i * 4 + 1 + 4 by omega, show i * 4 + 4 + 2 = i * 4 + 2 + 4 by omega, show i * 4 + 4 + 3 = i * 4 + 3 + 4 by omega]
   simpa [flatKeys, encK] using this
theorem ownsRow_keysIn {w : World} {base n : Nat} {v : Value} {l : List KeyP} {e : TypeId} (h : w.ownsRow base e 4 v n (flatKeys l)) : ∃ ao cap, v = .slice ao l.length cap /\ KeysIn w ao l := by
 have hn : n = l.length := by have := h.1; rw [flatKeys_length] at this; omega
 subst hn
 obtain ⟨ao, cap, rfl, hc⟩ := ownsRow_at h
 refine ⟨ao, cap, rfl, fun i p hp => ?_⟩
 obtain ⟨f1, f2, f3, f4⟩ := flatKeys_at l i p hp
 obtain ⟨b, h1, hb, h2⟩ := hc _ _ f1
 obtain ⟨b', h1', _, h2'⟩ := hc _ _ f2
 obtain ⟨b'', h1'', _, h2''⟩ := hc _ _ f3
 obtain ⟨b3, h13, _, h23⟩ := hc _ _ f4
 rw [h1] at h1' h1'' h13; cases h1'; cases h1''; cases h13
 exact ⟨b, h1, h2, h2', h2'', h23⟩
theorem KeysIn.below {w w' : World} {ao : Option Addr} {l : List KeyP} (h : KeysIn w ao l) (hb : Below w.heap.size w w') : KeysIn w' ao l := fun j p hp => by
 obtain ⟨b, h1, h2, h3, h4, h5⟩ := h j p hp
 have hl := World.block_lt_of_cell? w _ h2
 exact ⟨b, h1, below_cell hb hl h2, below_cell hb hl h3, below_cell hb hl h4, below_cell hb hl h5⟩
def TextsIn (w : World) (ao : Option Addr) (l : List ByteArray) : Prop := ∀ j x, l[j]? = some x -> ∃ b, ao = some ⟨b, 0, none⟩ /\ w.cell? ⟨b, j, none⟩ = some (.string x)
theorem ownsRow_textsIn {w : World} {base n : Nat} {v : Value} {l : List ByteArray} {e : TypeId} (h : w.ownsRow base e 1 v n (l.map Value.string)) : ∃ ao cap, v = .slice ao l.length cap /\ TextsIn w ao l := by
 have hn : n = l.length := by have := h.1; simp at this; omega
 subst hn
 obtain ⟨ao, cap, rfl, hc⟩ := ownsRow_at h
 refine ⟨ao, cap, rfl, fun i x hx => ?_⟩
 obtain ⟨b, h1, _, h2⟩ := hc i (.string x) (by rw [List.getElem?_map, hx]; rfl)
 exact ⟨b, h1, h2⟩
theorem TextsIn.below {w w' : World} {ao : Option Addr} {l : List ByteArray} (h : TextsIn w ao l) (hb : Below w.heap.size w w') : TextsIn w' ao l := fun j p hp => by
 obtain ⟨b, h1, h2⟩ := h j p hp
 exact ⟨b, h1, below_cell hb (World.block_lt_of_cell? w _ h2) h2⟩
set_option maxRecDepth 100000 in
set_option maxHeartbeats 2000000 in
theorem samePieces_any (L : List Pc) (ao bo : Option Addr) (ca cb : Nat) (w : World) (ha : PcsAt w ao L) (hb : PcsAt w bo L) (hL : L.length <= maxLen) :
  Calls Tryz.prog 85 #[.slice ao L.length ca, .slice bo L.length cb] w fun e w' => e = .returned (.bool true) /\ Below w.heap.size w w' := by
 unfold maxLen at hL
 have HA := Lib.hid ha
 have HB := Lib.hid hb
 clear ha hb
 go_enter Tryz.func85, Tryz.ntmps85
 go_wp2_with fail
 go_loopw [5] (fun i X => ∃ q : Nat, q <= L.length /\ i = .int .i64 q /\ Below w.heap.size w X) (fun i _ => L.length - (intOf i).toNat)
 case atStart => exact ⟨0, Nat.zero_le _, rfl, Below.refl _ _⟩
 case round =>
  obtain ⟨q, hq, rfl, hb⟩ := hrel
  by_cases hql : q < L.length
  · obtain ⟨p, hp⟩ : ∃ p, L[q]? = some p := ⟨_, List.getElem?_eq_getElem hql⟩
    obtain ⟨f, t, u⟩ := p
    obtain ⟨ba, rfl, a0, a1, a2⟩ := (HA.out.below hb) q _ hp
    obtain ⟨bb, rfl, c0, c1, c2⟩ := (HB.out.below hb) q _ hp
    simp only at a0 a1 a2 c0 c1 c2
    have qa0 := fun X : InC (Bel wr) => X.cell a0
    have qa1 := fun X : InC (Bel wr) => X.cell a1
    have qa2 := fun X : InC (Bel wr) => X.cell a2
    have qc0 := fun X : InC (Bel wr) => X.cell c0
    have qc1 := fun X : InC (Bel wr) => X.cell c1
    have qc2 := fun X : InC (Bel wr) => X.cell c2
    have HBW := Lib.hid hb
    have q0 : (0 : Int) <= (q : Int) := by omega
    have q1 : (q : Int) < (L.length : Int) := by omega
    clear hp hb
    go_wp2_with fail
    refine wp_region_in (S := Bel wr) (by kernel_rfl) (by kernel_rfl) (bel_drew (Below.refl _ wr)) (fun hne => ?_)
    repeat (go_big_quiet_step (fail))
    refine wpQuiet_nil ?_
    rintro _ ⟨X, rfl⟩
    go_wp2_with fail
    exact ⟨⟨q + 1, by omega, by go_num, HBW.out.trans (X.ok.mono HBW.out.size)⟩, by simp [intOf]; omega⟩
  · obtain rfl : q = L.length := by omega
    have HBW := Lib.hid hb
    clear hb
    go_wp2_with fail
    go_ret
    exact ⟨rfl, HBW.out⟩
set_option maxRecDepth 100000 in
set_option maxHeartbeats 2000000 in
theorem sameKeys_any (L : List KeyP) (ao bo : Option Addr) (ca cb : Nat) (w : World) (ha : KeysIn w ao L) (hb : KeysIn w bo L) (hL : L.length <= maxLen) :
  Calls Tryz.prog 30 #[.slice ao L.length ca, .slice bo L.length cb] w fun e w' => e = .returned (.bool true) /\ Below w.heap.size w w' := by
 unfold maxLen at hL
 have HA := Lib.hid ha
 have HB := Lib.hid hb
 clear ha hb
 go_enter Tryz.func30, Tryz.ntmps30
 go_wp2_with fail
 go_loopw [5] (fun i X => ∃ q : Nat, q <= L.length /\ i = .int .i64 q /\ Below w.heap.size w X) (fun i _ => L.length - (intOf i).toNat)
 case atStart => exact ⟨0, Nat.zero_le _, rfl, Below.refl _ _⟩
 case round =>
  obtain ⟨q, hq, rfl, hb⟩ := hrel
  by_cases hql : q < L.length
  · obtain ⟨p, hp⟩ : ∃ p, L[q]? = some p := ⟨_, List.getElem?_eq_getElem hql⟩
    obtain ⟨f, t, u, g⟩ := p
    obtain ⟨ba, rfl, a0, a1, a2, a3⟩ := (HA.out.below hb) q _ hp
    obtain ⟨bb, rfl, c0, c1, c2, c3⟩ := (HB.out.below hb) q _ hp
    simp only at a0 a1 a2 a3 c0 c1 c2 c3
    have qa0 := fun X : InC (Bel wr) => X.cell a0
    have qa1 := fun X : InC (Bel wr) => X.cell a1
    have qa2 := fun X : InC (Bel wr) => X.cell a2
    have qa3 := fun X : InC (Bel wr) => X.cell a3
    have qc0 := fun X : InC (Bel wr) => X.cell c0
    have qc1 := fun X : InC (Bel wr) => X.cell c1
    have qc2 := fun X : InC (Bel wr) => X.cell c2
    have qc3 := fun X : InC (Bel wr) => X.cell c3
    have nk := fun W => neq_keyS W u f t g
    have HBW := Lib.hid hb
    have q0 : (0 : Int) <= (q : Int) := by omega
    have q1 : (q : Int) < (L.length : Int) := by omega
    clear hp hb
    go_wp2_with fail
    refine wp_region_in (S := Bel wr) (by kernel_rfl) (by kernel_rfl) (bel_drew (Below.refl _ wr)) (fun hne => ?_)
    repeat (go_big_quiet_step (fail))
    refine wpQuiet_nil ?_
    rintro _ ⟨X, rfl⟩
    go_wp2_with fail
    exact ⟨⟨q + 1, by omega, by go_num, HBW.out.trans (X.ok.mono HBW.out.size)⟩, by simp [intOf]; omega⟩
  · obtain rfl : q = L.length := by omega
    have HBW := Lib.hid hb
    clear hb
    go_wp2_with fail
    go_ret
    exact ⟨rfl, HBW.out⟩
set_option maxRecDepth 100000 in
set_option maxHeartbeats 2000000 in
theorem sameTexts_any (L : List ByteArray) (ao bo : Option Addr) (ca cb : Nat) (w : World) (ha : TextsIn w ao L) (hb : TextsIn w bo L) (hL : L.length <= maxLen) :
  Calls Tryz.prog 88 #[.slice ao L.length ca, .slice bo L.length cb] w fun e w' => e = .returned (.bool true) /\ Below w.heap.size w w' := by
 unfold maxLen at hL
 have HA := Lib.hid ha
 have HB := Lib.hid hb
 clear ha hb
 go_enter Tryz.func88, Tryz.ntmps88
 go_wp2_with fail
 go_loopw [5] (fun i X => ∃ q : Nat, q <= L.length /\ i = .int .i64 q /\ Below w.heap.size w X) (fun i _ => L.length - (intOf i).toNat)
 case atStart => exact ⟨0, Nat.zero_le _, rfl, Below.refl _ _⟩
 case round =>
  obtain ⟨q, hq, rfl, hb⟩ := hrel
  by_cases hql : q < L.length
  · obtain ⟨p, hp⟩ : ∃ p, L[q]? = some p := ⟨_, List.getElem?_eq_getElem hql⟩
    obtain ⟨ba, rfl, a0⟩ := (HA.out.below hb) q _ hp
    obtain ⟨bb, rfl, c0⟩ := (HB.out.below hb) q _ hp
    have qa0 := fun X : InC (Bel wr) => X.cell a0
    have qc0 := fun X : InC (Bel wr) => X.cell c0
    have HBW := Lib.hid hb
    have q0 : (0 : Int) <= (q : Int) := by omega
    have q1 : (q : Int) < (L.length : Int) := by omega
    clear hp hb
    go_wp2_with fail
    refine wp_region_in (S := Bel wr) (by kernel_rfl) (by kernel_rfl) (bel_drew (Below.refl _ wr)) (fun hne => ?_)
    repeat (go_big_quiet_step (fail))
    refine wpQuiet_nil ?_
    rintro _ ⟨X, rfl⟩
    go_wp2_with fail
    exact ⟨⟨q + 1, by omega, by go_num, HBW.out.trans (X.ok.mono HBW.out.size)⟩, by simp [intOf]; omega⟩
  · obtain rfl : q = L.length := by omega
    have HBW := Lib.hid hb
    clear hb
    go_wp2_with fail
    go_ret
    exact ⟨rfl, HBW.out⟩
end Go.Proofs.YtflhpmgjehjjkaaGreatDoor
