/- The methods of span.Set: Spans, Union, Both, Minus, Has: what each returns; nothing that was there before changes. -/
import Derived.Test.YtmmkjokgjhcdlaaDoorSetC
import Derived.Deep.RegionHeld3
namespace Go.Proofs.YtmmkjokgjhcdlaaDoor
open Go.RowKit Go.Shelf Go.Sort

/-- As few spans as there can be. -/
def canon (l : List (Int × Int)) : List (Int × Int) := mergeS (sortS l)
/-- What span.Of makes of some spans: a new set, or the word that there are too many. -/
def setOut (w : World) (l : List (Int × Int)) (x y : Value) (w' : World) : Prop :=
  (∃ b, x = .pointer (some ⟨b, 0, none⟩) ∧ y = .nilIface ∧ w.heap.size ≤ b ∧ setAt w' b (canon l)) ∨ (60 < (canon l).length ∧ x = .pointer none ∧ y = .iface 23 (.int .i64 4))
def setRes (w : World) (l : List (Int × Int)) (e : Ending) (w' : World) : Prop := ∃ x y, e = .returned (.tuple #[x, y]) ∧ Below w.heap.size w w' ∧ setOut w l x y w'
theorem setOut.later {w w1 : World} {l : List (Int × Int)} {x y : Value} {w' : World} (h : setOut w1 l x y w') (hb : Below w.heap.size w w1) : setOut w l x y w' :=
  h.imp (fun ⟨b, h1, h2, h3, h4⟩ => ⟨b, h1, h2, Nat.le_trans hb.size h3, h4⟩) id
theorem of_res (l : List (Int × Int)) (ao : Option Addr) (cap : Nat) (w : World) (hl : spansAt w ao l) (hr : rightL l) (hlen : l.length * 16 ≤ 140737488355328) :
    Calls Tryd.prog 7 #[.slice ao l.length cap] w fun e w' => setRes w l e w' :=
  (of_any l ao cap w hl hr hlen).mono fun _ _ ⟨hb, h⟩ => h.elim (fun ⟨b, h1, h2, h3⟩ => ⟨_, _, h1, hb, .inl ⟨b, rfl, rfl, h2, h3⟩⟩) (fun ⟨h1, h2⟩ => ⟨_, _, h2, hb, .inr ⟨h1, rfl, rfl⟩⟩)
theorem setAt.lt {w : World} {b : Nat} {l : List (Int × Int)} (h : setAt w b l) : b < w.heap.size := by
  obtain ⟨ao, cap, h1, _⟩ := h
  exact World.block_lt_of_cell? w _ h1
theorem setAt.below {w w' : World} {b : Nat} {l : List (Int × Int)} (h : setAt w b l) (hb : Below w.heap.size w w') : setAt w' b l := by
  have hlt := h.lt
  obtain ⟨ao, cap, h1, h2, h3, h4⟩ := h
  exact ⟨ao, cap, below_cell hb hlt h1, h2.below hb, h3, h4⟩

theorem spans_any (b : Nat) (l : List (Int × Int)) (w : World) (hs : setAt w b l) :
    Calls Tryd.prog 10 #[.pointer (some ⟨b, 0, none⟩)] w fun e w' => ∃ v, e = .returned v ∧ w'.ownsRow w.heap.size 29 2 v l.length (flat l) ∧ Below w.heap.size w w' := by
  obtain ⟨ao, cap, h1, h2, h3, h4⟩ := hs
  go_enter Tryd.func10, Tryd.ntmps10
  go_wp2_with (go_at_call 25; refine (clone_any ao l cap _ h2 (by omega)).mono ?_; rintro e w1 ⟨v1, rfl, ho1, hb1⟩)
  go_ret
  exact ⟨_, rfl, ho1, hb1⟩

theorem lists2 (X : World) (n : Nat) (hn : X.heap.size = n) (a1 a2 : Option Addr) (l m : List (Int × Int)) (c1 c2 : Nat) (h1 : spansAt X a1 l) (h2 : spansAt X a2 m) (n1 : a1 = none → c1 = 0) (n2 : a2 = none → c2 = 0) :
    listsAtN (X.alloc (.cells #[.slice a1 l.length c1, .slice a2 m.length c2] 22)) (some ⟨n, 0, none⟩) [l, m] := by
  have hb : Below X.heap.size X (X.alloc (.cells #[.slice a1 l.length c1, .slice a2 m.length c2] 22)) := (Below.refl _ _).alloc (Nat.le_refl _) _
  intro i k hk
  match i, hk with
  | 0, hk => simp at hk; subst hk; exact ⟨n, 0, a1, c1, rfl, cell2a hn, h1.below hb, n1⟩
  | 1, hk => simp at hk; subst hk; exact ⟨n, 0, a2, c2, rfl, cell2b hn, h2.below hb, n2⟩

set_option maxRecDepth 100000 in
set_option maxHeartbeats 100000 in
theorem union_any (ba bb : Nat) (l m : List (Int × Int)) (w : World) (ha : setAt w ba l) (hb : setAt w bb m) (hl : rightL l) (hm : rightL m) :
    Calls Tryd.prog 16 #[.pointer (some ⟨ba, 0, none⟩), .pointer (some ⟨bb, 0, none⟩)] w fun e w' => setRes w (l ++ m) e w' := by
  have hlt1 := ha.lt
  have hlt2 := hb.lt
  obtain ⟨a1, c1, k1, s1, n1, l1⟩ := ha
  obtain ⟨a2, c2, k2, s2, n2, l2⟩ := hb
  obtain ⟨u, hu⟩ : ∃ u, u = l ++ m := ⟨_, rfl⟩
  have hfl : [l, m].flatten = u := by rw [hu]; simp
  have hr : rightL u := fun p hp => (List.mem_append.1 (hu ▸ hp)).elim (hl p) (hm p)
  have hlen : u.length * 16 ≤ 140737488355328 := by rw [hu, List.length_append]; omega
  have N1 := Lib.hid n1
  have N2 := Lib.hid n2
  have HFL := Lib.hid hfl
  have HR := Lib.hid hr
  have HU := Lib.hid hu
  clear n1 n2 hfl hr hl hm hu
  go_enter Tryd.func16, Tryd.ntmps16
  go_wp2
  go_region_held3 (fun X => X.cell? ⟨ba, 0, none⟩ = some (.slice a1 l.length c1) ∧ X.cell? ⟨bb, 0, none⟩ = some (.slice a2 m.length c2) ∧ Below w.heap.size w X)
    (first | exact ⟨k1, k2, (Below.refl _ _).drew⟩ | exact ⟨below_cell hbz hlt1 k1, below_cell hbz hlt2 k2, hbz⟩ | exact ⟨below_cell ((Below.refl _ _).alloc (Nat.le_refl _) _) hlt1 k1, below_cell ((Below.refl _ _).alloc (Nat.le_refl _) _) hlt2 k2, ((Below.refl _ _).alloc (Nat.le_refl _) _).drew⟩)
    (first
      | (go_at_call 34; refine (concat_any [l, m] _ 2 (w.alloc (.cells #[.slice a1 l.length c1, .slice a2 m.length c2] 22)).drew (show listsAtN (w.alloc (.cells #[.slice a1 l.length c1, .slice a2 m.length c2] 22)) _ _ from lists2 w w.heap.size rfl a1 a2 l m c1 c2 s1 s2 N1.out N2.out) (by simp [maxLen]) (by rw [HFL.out]; exact hlen)).mono ?_; rintro e w1 ⟨v1, rfl, ho1, hb1⟩; rw [HFL.out] at ho1; obtain ⟨a3, c3, rfl, s3, n3⟩ := ownsRow_spansN ho1; have hbz : Below w.heap.size w w1 := (((Below.refl _ _).alloc (Nat.le_refl _) _).drew.trans (hb1.mono (by simp))))
      | (go_at_call 7; ((with_reducible refine (of_res u a3 c3 _ s3 HR.out hlen).mono ?_); rintro e w2 ⟨rx, ry, rfl, hb2, hres⟩; have hout := hres.later hbz; have hbz := below_step hbz hb2)))
  go_wp2
  go_ret2
  rw [HU.out] at hout
  exact ⟨_, _, rfl, hbz, hout⟩
end Go.Proofs.YtmmkjokgjhcdlaaDoor
