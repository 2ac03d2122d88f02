/- The real past and the reference's, side by side: one transaction, one forgetting. -/
import Derived.Test.YtflhpmgjehjjkaaGreatDoorPsAJo
import Derived.Test.YtflhpmgjehjjkaaGreatDoorRpTJo
import Derived.Test.YtflhpmgjehjjkaaGreatDoorErrCJo
import Derived.Test.YtflhpmgjehjjkaaGreatDoorTreeRJo
import Derived.Test.YtflhpmgjehjjkaaGreatDoorPsCJo
namespace Go.Proofs.YtflhpmgjehjjkaaGreatDoor
open Go.RowKit Go.Deep Go.Shelf Go.Sort Go.Maps

set_option maxRecDepth 100000 in
set_option maxHeartbeats 2000000 in
theorem pcommit_bad (ao : Option Addr) (c : Nat) (l : List OpP) (pb po : Nat) (w : World) (hl : opsAt w ao l) (hm : l.length ≤ maxLen) (hs : ∀ o ∈ l, o.key.word.size ≤ 100000 ∧ o.value.size ≤ 100000) (hg : PowTab w) (hok : okL l = false) :
    Calls Tryz.prog 9 #[.pointer (some ⟨pb, po, none⟩), .slice ao l.length c] w fun e w' => (∃ v, e = .returned v ∧ ErrIs w' v (writeR l).2.1 (writeR l).2.2) ∧ Below w.heap.size w w' := by
  have hfw := fwrite_any ao c l w hl hm hs hg
  have hne := okL_not hok
  generalize (writeR l).1 = txt at *
  generalize (writeR l).2.1 = n at *
  generalize (writeR l).2.2 = p at *
  have HFW := Lib.hid hfw
  have HNE := Lib.hid hne
  clear hfw hl hm hs hg hok hne
  go_enter Tryz.func9, Tryz.ntmps9
  go_wp2_with fail
  refine HFW.out.mono ?_
  rintro e w1 ⟨⟨v, rfl, hv, hnil⟩, b1⟩
  obtain ⟨t, x, rfl⟩ : ∃ t x, v = .iface t x := by
    rcases hnil with h | h
    · exact absurd h.2 HNE.out
    · exact h.1
  have HV := Lib.hid hv
  have HB := Lib.hid b1
  clear hv hnil b1
  go_wp2_with fail
  go_ret
  exact ⟨⟨_, rfl, HV.out⟩, HB.out⟩
set_option maxRecDepth 100000 in
set_option maxHeartbeats 2000000 in
theorem pcommit_full (ao : Option Addr) (c : Nat) (l : List OpP) (pb po : Nat) (R : Rest) (s : Pst) (g : Gh) (w : World) (h : PastAt w pb po R s g) (hl : opsAt w ao l) (hg : PowTab w) (hok : okL l = true) (hn : 150 ≤ s.now) :
    Calls Tryz.prog 9 #[.pointer (some ⟨pb, po, none⟩), .slice ao l.length c] w fun e w' => e = .returned (errV 12) ∧ Below w.heap.size w w' := by
  obtain ⟨⟨hl1, hl8⟩, hall⟩ := okL_iff.1 hok
  have hsz : ∀ o ∈ l, o.key.word.size ≤ 100000 ∧ o.value.size ≤ 100000 := fun o ho => by
    have h1 := List.all_eq_true.1 hall o ho
    have h2 := (wfkey (op_key h1)).2
    rcases op_value h1 with h3 | h3
    · omega
    · unfold wordB at h3; simp at h3; omega
  have hfw := fwrite_any ao c l w hl (by unfold maxLen; omega) hsz hg
  rw [okL_write hok] at hfw
  have HFW := Lib.hid hfw
  have HP := Lib.hid h
  clear hfw hl hg hok hsz hall h
  unfold errV
  go_enter Tryz.func9, Tryz.ntmps9
  go_wp2_with fail
  refine HFW.out.mono ?_
  rintro e w1 ⟨⟨v, rfl, _, hnil⟩, b1⟩
  have hv : v = .nilIface := by
    rcases hnil with h | h
    · exact h.1
    · exact absurd rfl h.2
  subst hv
  have P1 := HP.out.below b1
  have HB1 := Lib.hid b1
  obtain ⟨c0, _, _, _, _⟩ := past_cells P1.len P1.cells
  have hpl := P1.lt pb (Or.inl rfl)
  clear b1 P1 hnil
  go_wp2_with fail
  go_ret
  exact ⟨rfl, HB1.out⟩
end Go.Proofs.YtflhpmgjehjjkaaGreatDoor

namespace Go.Proofs.YtflhpmgjehjjkaaGreatDoor
open Go.RowKit Go.Deep Go.Shelf Go.Sort Go.Maps

theorem errN_is (w : World) (n : Int) : ErrIs w (errN n) n (-1) := by
  unfold errN
  by_cases h : n = 0
  · rw [if_pos h]; exact .inl ⟨rfl, h, rfl⟩
  · rw [if_neg h]; exact .inr (.inl ⟨rfl, rfl⟩)
theorem bare_same (n : Int) (w : World) (hg : ErrVar w) : Calls Tryz.prog 23 #[errN n, .int .i64 n] w fun e w' => e = .returned (.bool true) ∧ Below w.heap.size w w' := by
  have := bare_any (errN n) n (-1) n w hg (errN_is w n)
  rw [show (n == n && (-1 : Int) == -1) = true by simp] at this
  exact this
/-- What a question's box holds. -/
structure AB (A : Nat) (kk ka : Int) (kw : ByteArray) (kb a b t f u : Int) (X : World) : Prop where
  c0 : X.cell? ⟨A, 0, none⟩ = some (.int .i64 kk)
  c1 : X.cell? ⟨A, 1, none⟩ = some (.int .i64 ka)
  c2 : X.cell? ⟨A, 2, none⟩ = some (.string kw)
  c3 : X.cell? ⟨A, 3, none⟩ = some (.int .i64 kb)
  c4 : X.cell? ⟨A, 4, none⟩ = some (.int .i64 a)
  c5 : X.cell? ⟨A, 5, none⟩ = some (.int .i64 b)
  c6 : X.cell? ⟨A, 6, none⟩ = some (.int .i64 t)
  c7 : X.cell? ⟨A, 7, none⟩ = some (.int .i64 f)
  c8 : X.cell? ⟨A, 8, none⟩ = some (.int .i64 u)
  lt : A < X.heap.size
theorem AB.below {A : Nat} {kk ka : Int} {kw : ByteArray} {kb a b t f u : Int} {X Y : World} (h : AB A kk ka kw kb a b t f u X) (k : Below X.heap.size X Y) : AB A kk ka kw kb a b t f u Y :=
  ⟨below_cell k h.lt h.c0, below_cell k h.lt h.c1, below_cell k h.lt h.c2, below_cell k h.lt h.c3, below_cell k h.lt h.c4, below_cell k h.lt h.c5, below_cell k h.lt h.c6, below_cell k h.lt h.c7, below_cell k h.lt h.c8, Nat.lt_of_lt_of_le h.lt k.size⟩
/-- The two pasts, in one world. -/
structure TP (F : Nat → Prop) (pb po rb : Nat) (R : Rest) (hist : List (List OpP)) (s : Pst) (g : Gh) (known : Int) (X : World) : Prop where
  p : PastIs X pb po R hist s g
  r : RP F X rb hist known
  k : s.gone = known
  e : ErrVar X
theorem TP.below {F : Nat → Prop} {pb po rb : Nat} {R : Rest} {hist : List (List OpP)} {s : Pst} {g : Gh} {known : Int} {X Y : World} (h : TP F pb po rb R hist s g known X) (b : Below X.heap.size X Y) : TP F pb po rb R hist s g known Y :=
  ⟨h.p.below b, h.r.below b, h.k, h.e.below b⟩
end Go.Proofs.YtflhpmgjehjjkaaGreatDoor

namespace Go.Proofs.YtflhpmgjehjjkaaGreatDoor
open Go.RowKit Go.Deep Go.Shelf Go.Sort Go.Maps

/-- What the history is behind a transaction. -/
def histR (hist : List (List OpP)) (l : List OpP) : List (List OpP) := if okL l = true ∧ hist.length < 150 then hist ++ [l] else hist
theorem comR_ok {N : Nat} {l : List OpP} (h : okL l = true) (hn : N < 150) : comR N l = (0, -1) := by unfold comR; rw [if_pos h, if_pos hn]
theorem comR_full {N : Nat} {l : List OpP} (h : okL l = true) (hn : ¬ N < 150) : comR N l = (12, -1) := by unfold comR; rw [if_pos h, if_neg hn]
theorem comR_bad {N : Nat} {l : List OpP} (h : okL l = false) : comR N l = (writeR l).2 := by unfold comR; rw [if_neg (by rw [h]; decide)]
section
variable {pb rb : Nat} {R : Rest} {hist : List (List OpP)} {known : Int} {s : Pst} {g : Gh}
theorem pcommit_same (ao : Option Addr) (c : Nat) (l : List OpP) (w : World) (h : TP (g.foot pb) pb 0 rb R hist s g known w) (hl : opsAt w ao l) (hm : l.length ≤ maxLen) (hsep : l ≠ [] → SepOps ao g pb) (hg : PowTab w) (hs : ∀ o ∈ l, o.key.word.size ≤ 100000 ∧ o.value.size ≤ 100000) :
    Calls Tryz.prog 9 #[.pointer (some ⟨pb, 0, none⟩), .slice ao l.length c] w fun e w' => ∃ v s' g', e = .returned v ∧ ErrIs w' v (comR hist.length l).1 (comR hist.length l).2 ∧ PastIs w' pb 0 R (histR hist l) s' g' ∧ s'.gone = known ∧ Fr (g.foot pb) w w' ∧ Grows g g' pb w := by
  have hlen := h.p.len
  cases hok : okL l with
  | false =>
    refine (pcommit_bad ao c l pb 0 w hl hm hs hg hok).mono ?_
    rintro e w' ⟨⟨v, rfl, hv⟩, hb⟩
    exact ⟨v, s, g, rfl, by rw [comR_bad hok]; exact hv, by unfold histR; rw [if_neg (by rw [hok]; simp)]; exact h.p.below hb, h.k, Fr.new hb, Grows.refl _ _ _⟩
  | true =>
    by_cases hn : hist.length < 150
    · refine (commit_is ao c l pb 0 R hist s g w h.p hl (hsep fun e => by subst e; have := (okL_iff.1 hok).1.1; simp at this) hg hok hn).mono ?_
      rintro e w' ⟨s', g', rfl, hp, hgone, hf, hG⟩
      exact ⟨_, s', g', rfl, by rw [comR_ok hok hn]; exact .inl ⟨rfl, rfl, rfl⟩, by unfold histR; rw [if_pos ⟨hok, hn⟩]; exact hp, hgone.trans h.k, hf, hG⟩
    · refine (pcommit_full ao c l pb 0 R s g w h.p.at' hl hg hok (by have := h.p.now; omega)).mono ?_
      rintro e w' ⟨rfl, hb⟩
      exact ⟨_, s, g, rfl, by rw [comR_full hok hn]; exact .inr (.inl ⟨rfl, rfl⟩), by unfold histR; rw [if_neg (fun h => hn h.2)]; exact h.p.below hb, h.k, Fr.new hb, Grows.refl _ _ _⟩
theorem rpcommit_same {F : Nat → Prop} (ao : Option Addr) (c : Nat) (l : List OpP) (w : World) (h : RP F w rb hist known) (hl : opsAt w ao l) (hg : PowTab w) (hs : ∀ o ∈ l, o.key.word.size ≤ 100000 ∧ o.value.size ≤ 100000) (hF : ∀ k, F k → k < w.heap.size) :
    Calls Tryz.prog 21 #[.pointer (some ⟨rb, 0, none⟩), .slice ao l.length c] w fun e w' => e = .returned (.agg #[.int .i64 (comR hist.length l).1, .int .i64 (comR hist.length l).2]) ∧ RP F w' rb (histR hist l) known ∧ Fr (· = rb) w w' := by
  cases hok : okL l with
  | false =>
    refine (rpcommit_bad ao c l w h hl hok hg hs).mono ?_
    rintro e w' ⟨rfl, hb⟩
    exact ⟨by rw [comR_bad hok], by unfold histR; rw [if_neg (by rw [hok]; simp)]; exact h.below hb, Fr.new hb⟩
  | true =>
    by_cases hn : hist.length < 150
    · refine (rpcommit_ok ao c l w h hl hok hg hF hn).mono ?_
      rintro e w' ⟨rfl, hp, hf⟩
      exact ⟨by rw [comR_ok hok hn], by unfold histR; rw [if_pos ⟨hok, hn⟩]; exact hp, hf⟩
    · refine (rpcommit_full ao c l w h hl hok hg (by omega)).mono ?_
      rintro e w' ⟨rfl, hb⟩
      exact ⟨by rw [comR_full hok hn], by unfold histR; rw [if_neg (fun h => hn h.2)]; exact h.below hb, Fr.new hb⟩
end
/-- Where the two pasts lie. -/
structure PZ (w0 Z : World) (pb rb : Nat) : Prop where
  z : Below w0.heap.size w0 Z
  b0 : w0.heap.size ≤ pb
  b1 : pb < rb
  b2 : rb < Z.heap.size
  ev : ErrVar w0
  pt : PowTab w0
theorem PZ.be {w0 Z X : World} {pb rb : Nat} (h : PZ w0 Z pb rb) (f : Fr (fun k => k = pb ∨ k = rb) Z X) : Below w0.heap.size w0 X :=
  h.z.trans (f.below (fun k _ e => by have := h.b0; have := h.b1; omega) h.z.size)
/-- Both pasts, in a world that began as Z. -/
structure PP (w0 Z : World) (pb rb : Nat) (R : Rest) (hist : List (List OpP)) (s : Pst) (g : Gh) (known : Int) (X : World) : Prop where
  pz : PZ w0 Z pb rb
  p : PastIs X pb 0 R hist s g
  r : RP (g.foot pb) X rb hist known
  k : s.gone = known
  fr : Fr (fun k => k = pb ∨ k = rb) Z X
  ft : ∀ k, g.foot pb k → k = pb ∨ Z.heap.size ≤ k
/-- Behind the real one's turn. -/
structure PH (w0 Z : World) (pb rb : Nat) (R : Rest) (hist hist' : List (List OpP)) (s' : Pst) (g' : Gh) (known known' : Int) (X : World) : Prop where
  pz : PZ w0 Z pb rb
  p : PastIs X pb 0 R hist' s' g'
  r : RP (g'.foot pb) X rb hist known
  k : s'.gone = known'
  fr : Fr (fun k => k = pb ∨ k = rb) Z X
  ft : ∀ k, g'.foot pb k → k = pb ∨ Z.heap.size ≤ k
section
variable {w0 Z X Y : World} {pb rb : Nat} {R : Rest} {hist hist' : List (List OpP)} {s s' : Pst} {g g' : Gh} {known known' : Int}
theorem PP.tp (h : PP w0 Z pb rb R hist s g known X) : TP (g.foot pb) pb 0 rb R hist s g known X := ⟨h.p, h.r, h.k, h.pz.ev.below (h.pz.be h.fr)⟩
theorem PP.be (h : PP w0 Z pb rb R hist s g known X) : Below w0.heap.size w0 X := h.pz.be h.fr
theorem PP.pow (h : PP w0 Z pb rb R hist s g known X) : PowTab X := h.pz.pt.below h.be
theorem PH.pow (h : PH w0 Z pb rb R hist hist' s' g' known known' X) : PowTab X := h.pz.pt.below (h.pz.be h.fr)
theorem PH.ev (h : PH w0 Z pb rb R hist hist' s' g' known known' X) : ErrVar X := h.pz.ev.below (h.pz.be h.fr)
theorem PP.below (h : PP w0 Z pb rb R hist s g known X) (b : Below X.heap.size X Y) : PP w0 Z pb rb R hist s g known Y :=
  ⟨h.pz, h.p.below b, h.r.below b, h.k, h.fr.trans (Fr.new b), h.ft⟩
theorem PP.half (h : PP w0 Z pb rb R hist s g known X) (hp : PastIs Y pb 0 R hist' s' g') (hk : s'.gone = known') (hf : Fr (g.foot pb) X Y) (hG : Grows g g' pb X) : PH w0 Z pb rb R hist hist' s' g' known known' Y := by
  have hs := h.fr.size
  refine ⟨h.pz, hp, h.r.turn hf hG, hk, h.fr.next hf (fun k hk e => ?_), fun k hk => ?_⟩
  · rcases h.ft k e with e | e
    · exact .inl e
    · omega
  · rcases hG k hk with e | e
    · exact h.ft k e
    · exact .inr (by omega)
theorem PH.full (h : PH w0 Z pb rb R hist hist' s' g' known known' X) (hr : RP (g'.foot pb) Y rb hist' known') (hf : Fr (· = rb) X Y) : PP w0 Z pb rb R hist' s' g' known' Y :=
  ⟨h.pz, h.p.frame hf (fun k hk e => by subst e; exact hr.nf hk), hr, h.k, h.fr.trans (hf.mono fun k _ e => .inr e), h.ft⟩
theorem PH.footlt (h : PH w0 Z pb rb R hist hist' s' g' known known' X) : ∀ k, g'.foot pb k → k < X.heap.size := h.p.at'.lt
/-- An error's box is not the reference's. -/
theorem errIs_rb {F : Nat → Prop} {v : Value} {n p : Int} (h : ErrIs X v n p) (hr : RP F X rb hist known) (hf : Fr (· = rb) X Y) : ErrIs Y v n p := by
  rcases h with h | h | ⟨b, h1, h2, h3⟩
  · exact .inl h
  · exact .inr (.inl h)
  · have hne : b ≠ rb := fun e => by
      subst e
      obtain ⟨ao, c, ⟨c0, _⟩, _⟩ := hr.get
      rw [h2] at c0; cases c0
    have hb := hf.block b (World.block_lt_of_cell? X _ h2) hne
    exact .inr (.inr ⟨b, h1, (World.cell?_of_block (a := ⟨b, 0, none⟩) hb).trans h2, (World.cell?_of_block (a := ⟨b, 1, none⟩) hb).trans h3⟩)
/-- Changes that lay there from the start, and are in neither past. -/
theorem PP.ops (h : PP w0 Z pb rb R hist s g known X) {ao : Option Addr} {l : List OpP} (hl : opsAt Z ao l) (hn : l ≠ [] → ∀ b f, ao = some ⟨b, f, none⟩ → b < Z.heap.size ∧ b ≠ pb ∧ b ≠ rb) : opsAt X ao l ∧ (l ≠ [] → SepOps ao g pb) := by
  refine ⟨fun i o hi => ?_, fun h0 b f e hf => ?_⟩
  · obtain ⟨b, f, e, hc⟩ := hl i o hi
    obtain ⟨n1, n2, n3⟩ := hn (fun e => by subst e; simp at hi) b f e
    exact ⟨b, f, e, fun j u hj => (World.cell?_of_block (a := ⟨b, _, none⟩) (h.fr.block b n1 (fun e => by omega))).trans (hc j u hj)⟩
  · obtain ⟨n1, n2, n3⟩ := hn h0 b f e
    rcases h.ft b hf with e | e
    · exact n2 e
    · omega
theorem PH.ops (h : PH w0 Z pb rb R hist hist' s' g' known known' X) {ao : Option Addr} {l : List OpP} (hl : opsAt Z ao l) (hn : l ≠ [] → ∀ b f, ao = some ⟨b, f, none⟩ → b < Z.heap.size ∧ b ≠ pb ∧ b ≠ rb) : opsAt X ao l := fun i o hi => by
  obtain ⟨b, f, e, hc⟩ := hl i o hi
  obtain ⟨n1, n2, n3⟩ := hn (fun e => by subst e; simp at hi) b f e
  exact ⟨b, f, e, fun j u hj => (World.cell?_of_block (a := ⟨b, _, none⟩) (h.fr.block b n1 (fun e => by omega))).trans (hc j u hj)⟩
end
/-! ### What comes in -/
theorem opsAt_lt {w : World} {ao : Option Addr} {l : List OpP} (h : opsAt w ao l) (hl : l ≠ []) : ∀ b f, ao = some ⟨b, f, none⟩ → b < w.heap.size := fun b f e => by
  cases l with
  | nil => exact absurd rfl hl
  | cons o l =>
    obtain ⟨b', f', e', hc⟩ := h 0 o rfl
    rw [e] at e'; cases e'
    exact World.block_lt_of_cell? w _ (hc 0 _ rfl)
end Go.Proofs.YtflhpmgjehjjkaaGreatDoor
