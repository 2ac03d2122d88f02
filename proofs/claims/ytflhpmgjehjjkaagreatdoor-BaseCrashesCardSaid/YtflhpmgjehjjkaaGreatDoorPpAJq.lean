/- The real past and the reference's, side by side: one transaction, one forgetting. -/
import Derived.Deep.RegionHeld3
import Derived.Deep.DeepCutAuto
import Derived.Test.YtflhpmgjehjjkaaGreatDoorRpMJq
import Derived.Test.YtflhpmgjehjjkaaGreatDoorSqGJq
import Derived.Test.YtflhpmgjehjjkaaGreatDoorRpDJq
import Derived.Test.YtflhpmgjehjjkaaGreatDoorRpJJq
import Derived.Test.YtflhpmgjehjjkaaGreatDoorInLJq
import Derived.Test.YtflhpmgjehjjkaaGreatDoorRpLJq
import Derived.Test.YtflhpmgjehjjkaaGreatDoorPwNJq
import Derived.Test.YtflhpmgjehjjkaaGreatDoorRpIJq
import Derived.Test.YtflhpmgjehjjkaaGreatDoorAppJq
import Derived.Test.YtflhpmgjehjjkaaGreatDoorPwMJq
import Derived.Test.YtflhpmgjehjjkaaGreatDoorErrCJq
import Derived.Test.YtflhpmgjehjjkaaGreatDoorTreeRJq
import Derived.Test.YtflhpmgjehjjkaaGreatDoorRpHJq
import Derived.Test.YtflhpmgjehjjkaaGreatDoorPsCJq
namespace Go.Proofs.YtflhpmgjehjjkaaGreatDoor
open Go.RowKit Go.Deep Go.Shelf Go.Sort Go.Maps

/-- The map has just these keys. -/
structure KadIs (w : World) (b n : Nat) (L : List KeyP) : Prop where
  nod : L.Nodup
  ok : ∀ x ∈ L, keyB x = true
  own : ∃ D, w.ownsMap Tryz.prog 44 boolR b n D ∧ MapOf kK (fun _ => boolD) D L
theorem KadIs.frame {F : Nat → Prop} {w w' : World} {b n : Nat} {L : List KeyP} (h : KadIs w b n L) (hf : Fr F w w') (hn : ¬ F b) : KadIs w' b n L := by
  obtain ⟨D, h1, h2⟩ := h.own
  exact ⟨h.nod, h.ok, D, owns_frame h1 hf hn, h2⟩
/-! ### Which keys have been seen -/
def seenO (hist : List (List OpP)) (i q : Nat) : List OpP := (hist.take i).flatten ++ ((hist[i]?).getD []).take q
theorem seenO_zero (hist : List (List OpP)) : seenO hist 0 0 = [] := by simp [seenO]
theorem seenO_op {hist : List (List OpP)} {i q : Nat} {tx : List OpP} {o : OpP} (h : hist[i]? = some tx) (ho : tx[q]? = some o) : seenO hist i (q + 1) = seenO hist i q ++ [o] := by
  unfold seenO
  rw [h, Option.getD_some, List.take_add_one, ho]
  simp
theorem seenO_tx {hist : List (List OpP)} {i : Nat} {tx : List OpP} (h : hist[i]? = some tx) : seenO hist i tx.length = seenO hist (i + 1) 0 := by
  unfold seenO
  rw [h, Option.getD_some, List.take_of_length_le (Nat.le_refl _), List.take_add_one, h]
  simp
theorem seenO_all {hist : List (List OpP)} : seenO hist hist.length 0 = hist.flatten := by simp [seenO]
theorem said_noneL {k : KeyP} {t : Int} : ∀ {l : List OpP} {x : ByteArray}, (∀ o ∈ l, o.key ≠ k) → saidL l k t x = x
  | [], _, _ => rfl
  | o :: l, x, h => by
    show List.foldl _ (if k = o.key ∧ o.fr ≤ t ∧ t < o.to then o.value else x) l = x
    rw [if_neg (fun e => h o (by simp) e.1.symm)]
    exact said_noneL fun o ho => h o (List.mem_cons_of_mem _ ho)
theorem said_seen {hist : List (List OpP)} {k : KeyP} {a : Nat} {t : Int} (h : (saidH hist k a t).size ≠ 0) : ∃ o ∈ hist.flatten, o.key = k := by
  rcases Classical.em (∃ o ∈ hist.flatten, o.key = k) with h1 | h1
  · exact h1
  · exfalso
    apply h
    have : saidH hist k a t = ⟨#[]⟩ := said_noneL fun o ho e => h1 ⟨o, by
      obtain ⟨l, hl, ho⟩ := List.mem_flatten.1 ho
      exact List.mem_flatten.2 ⟨l, List.mem_of_mem_take hl, ho⟩, e⟩
    rw [this]; rfl
/-- What is gathered, all in all. -/
structure GK (hist : List (List OpP)) (a : Nat) (t : Int) (i q : Nat) (M U : List KeyP) : Prop where
  mem : ∀ k, k ∈ M ↔ ∃ o ∈ seenO hist i q, o.key = k
  nod : U.Nodup
  out : ∀ k, k ∈ U ↔ k ∈ M ∧ (saidH hist k a t).size ≠ 0
theorem GK.zero (hist : List (List OpP)) (a : Nat) (t : Int) : GK hist a t 0 0 [] [] :=
  ⟨fun k => ⟨(fun h => by cases h), fun ⟨o, ho, _⟩ => by rw [seenO_zero] at ho; cases ho⟩, List.nodup_nil, fun k => ⟨(fun h => by cases h), (fun h => by cases h.1)⟩⟩
theorem GK.tx {hist : List (List OpP)} {a : Nat} {t : Int} {i : Nat} {M U : List KeyP} {tx : List OpP} (h : GK hist a t i tx.length M U) (htx : hist[i]? = some tx) : GK hist a t (i + 1) 0 M U :=
  ⟨fun k => by rw [h.mem, seenO_tx htx], h.nod, h.out⟩
/-- One that is there already. -/
theorem GK.old {hist : List (List OpP)} {a : Nat} {t : Int} {i q : Nat} {M M' U : List KeyP} {tx : List OpP} {o : OpP} (h : GK hist a t i q M U) (htx : hist[i]? = some tx) (ho : tx[q]? = some o) (hm : o.key ∈ M) (hM : ∀ y, y ∈ M' ↔ y = o.key ∨ y ∈ M) : GK hist a t i (q + 1) M' U := by
  have e : ∀ y, y ∈ M' ↔ y ∈ M := fun y => by rw [hM]; exact ⟨fun h => h.elim (fun e => by rw [e]; exact hm) id, .inr⟩
  refine ⟨fun k => ?_, h.nod, fun k => by rw [h.out, e]⟩
  rw [e, h.mem, seenO_op htx ho]
  constructor
  · rintro ⟨o', ho', e'⟩; exact ⟨o', by simp [ho'], e'⟩
  · rintro ⟨o', ho', e'⟩
    rcases List.mem_append.1 ho' with h1 | h1
    · exact ⟨o', h1, e'⟩
    · simp at h1; subst h1; subst e'; exact (h.mem _).1 hm
theorem GK.new {hist : List (List OpP)} {a : Nat} {t : Int} {i q : Nat} {M M' U : List KeyP} {tx : List OpP} {o : OpP} (h : GK hist a t i q M U) (htx : hist[i]? = some tx) (ho : tx[q]? = some o) (hM : ∀ y, y ∈ M' ↔ y = o.key ∨ y ∈ M) (k : KeyP) : k ∈ M' ↔ ∃ o' ∈ seenO hist i (q + 1), o'.key = k := by
  rw [hM, h.mem, seenO_op htx ho]
  constructor
  · rintro (e | ⟨o', ho', e⟩)
    · exact ⟨o, by simp, e.symm⟩
    · exact ⟨o', by simp [ho'], e⟩
  · rintro ⟨o', ho', e'⟩
    rcases List.mem_append.1 ho' with h1 | h1
    · exact .inr ⟨o', h1, e'⟩
    · simp at h1; subst h1; exact .inl e'.symm
theorem GK.no {hist : List (List OpP)} {a : Nat} {t : Int} {i q : Nat} {M M' U : List KeyP} {tx : List OpP} {o : OpP} (h : GK hist a t i q M U) (htx : hist[i]? = some tx) (ho : tx[q]? = some o) (h0 : (saidH hist o.key a t).size = 0) (hM : ∀ y, y ∈ M' ↔ y = o.key ∨ y ∈ M) : GK hist a t i (q + 1) M' U := by
  refine ⟨h.new htx ho hM, h.nod, fun k => ?_⟩
  rw [h.out, hM]
  constructor
  · rintro ⟨h1, h2⟩; exact ⟨.inr h1, h2⟩
  · rintro ⟨rfl | h1, h2⟩
    · exact absurd h0 h2
    · exact ⟨h1, h2⟩
theorem GK.yes {hist : List (List OpP)} {a : Nat} {t : Int} {i q : Nat} {M M' U : List KeyP} {tx : List OpP} {o : OpP} (h : GK hist a t i q M U) (htx : hist[i]? = some tx) (ho : tx[q]? = some o) (hm : o.key ∉ M) (h0 : (saidH hist o.key a t).size ≠ 0) (hM : ∀ y, y ∈ M' ↔ y = o.key ∨ y ∈ M) : GK hist a t i (q + 1) M' (U ++ [o.key]) := by
  refine ⟨h.new htx ho hM, List.nodup_append.2 ⟨h.nod, by simp, fun x hx y hy e => ?_⟩, fun k => ?_⟩
  · simp at hy; subst hy; subst e; exact hm ((h.out _).1 hx).1
  · rw [List.mem_append, h.out, hM]
    constructor
    · rintro (⟨h1, h2⟩ | e)
      · exact ⟨.inr h1, h2⟩
      · simp at e; subst e; exact ⟨.inl rfl, h0⟩
    · rintro ⟨rfl | h1, h2⟩
      · exact .inr (by simp)
      · exact .inl ⟨h1, h2⟩
theorem GK.all {hist : List (List OpP)} {a : Nat} {t : Int} {M U : List KeyP} (h : GK hist a t hist.length 0 M U) (k : KeyP) : k ∈ U ↔ (saidH hist k a t).size ≠ 0 := by
  rw [h.out, h.mem, seenO_all]
  exact ⟨fun h => h.2, fun h => ⟨said_seen h, h⟩⟩
end Go.Proofs.YtflhpmgjehjjkaaGreatDoor

namespace Go.Proofs.YtflhpmgjehjjkaaGreatDoor
open Go.RowKit Go.Deep Go.Shelf Go.Sort Go.Maps

def keyRE (hist : List (List OpP)) (known a t : Int) : Int := if askR hist.length known a ≠ 0 then askR hist.length known a else if timeB t then 0 else 1
/-- The loops' state. -/
structure KQ (hist : List (List OpP)) (a : Nat) (t : Int) (w : World) (mb i q c : Nat) (M U : List KeyP) (v : Value) (X : World) : Prop where
  kad : KadIs X mb c M
  gk : GK hist a t i q M U
  box : X.heap[mb + 1]? = some (.cells #[v] 41 (0, 0))
  row : X.ownsRow (mb + 2) 44 4 v U.length (flatKeys U)
  cnt : c ≤ i * 8 + q
  len : U.length ≤ i * 8 + q
  hm : w.heap.size ≤ mb
  be : Below w.heap.size w X
theorem KQ.below {hist : List (List OpP)} {a : Nat} {t : Int} {w : World} {mb i q c : Nat} {M U : List KeyP} {v : Value} {X Y : World} (h : KQ hist a t w mb i q c M U v X) (b : Below X.heap.size X Y) : KQ hist a t w mb i q c M U v Y :=
  ⟨h.kad.frame (F := fun _ => False) (Fr.new b) (fun e => e), h.gk, (b.block _ (lt_of_block h.box)).trans h.box, ownsRow_below h.row b, h.cnt, h.len, h.hm, h.be.trans (b.mono h.be.size)⟩
/-- Behind the map's store. -/
theorem KQ.put {hist : List (List OpP)} {a : Nat} {t : Int} {w : World} {mb i q c : Nat} {M U : List KeyP} {v : Value} {X Y : World} (h : KQ hist a t w mb i q c M U v X) (hg : X.grownBy Y (some mb)) {M' : List KeyP} (hk : KadIs Y mb (c + 1) M') (g' : GK hist a t i (q + 1) M' U) : KQ hist a t w mb i (q + 1) (c + 1) M' U v Y := by
  have hf : Fr (· = mb) X Y := Fr.ofGrown hg
  exact ⟨hk, g', hf.keeps h.box (by omega), ownsRow_frame h.row hf (fun g hg e => by omega), by have := h.cnt; omega, by have := h.len; omega, h.hm, h.be.trans (hf.below (fun k _ e => by have := h.hm; omega) h.be.size)⟩
theorem KQ.tx {hist : List (List OpP)} {a : Nat} {t : Int} {w : World} {mb i c : Nat} {M U : List KeyP} {v : Value} {X : World} {tx : List OpP} (h : KQ hist a t w mb i tx.length c M U v X) (htx : hist[i]? = some tx) (h8 : tx.length ≤ 8) : KQ hist a t w mb (i + 1) 0 c M U v X :=
  ⟨h.kad, h.gk.tx htx, h.box, h.row, by have := h.cnt; omega, by have := h.len; omega, h.hm, h.be⟩
/-- Behind an append and its store. -/
structure KA (w : World) (mb c : Nat) (M U : List KeyP) (v : Value) (X : World) : Prop where
  kad : KadIs X mb c M
  box : X.heap[mb + 1]? = some (.cells #[v] 41 (0, 0))
  row : X.ownsRow (mb + 2) 44 4 v U.length (flatKeys U)
  be : Below w.heap.size w X
theorem KQ.yes {hist : List (List OpP)} {a : Nat} {t : Int} {w : World} {mb i q c : Nat} {M U : List KeyP} {v v' : Value} {X W7 Y : World} {M' : List KeyP} {k : KeyP} (h : KQ hist a t w mb i q c M U v X) (hA : KA w mb c M (U ++ [k]) v' W7) (hg : W7.grownBy Y (some mb)) (hk : KadIs Y mb (c + 1) M') (g' : GK hist a t i (q + 1) M' (U ++ [k])) : KQ hist a t w mb i (q + 1) (c + 1) M' (U ++ [k]) v' Y := by
  have hf : Fr (· = mb) W7 Y := Fr.ofGrown hg
  exact ⟨hk, g', hf.keeps hA.box (by omega), ownsRow_frame hA.row hf (fun g hg e => by omega), by have := h.cnt; omega, by have := h.len; rw [List.length_append]; simp; omega, h.hm, hA.be.trans (hf.below (fun k _ e => by have := h.hm; omega) hA.be.size)⟩
section
variable {F : Nat → Prop} {rb : Nat} {hist : List (List OpP)} {known : Int}
end
end Go.Proofs.YtflhpmgjehjjkaaGreatDoor

namespace Go.Proofs.YtflhpmgjehjjkaaGreatDoor
open Go.RowKit Go.Deep Go.Shelf Go.Sort Go.Maps

section
variable {F : Nat → Prop} {rb : Nat} {hist : List (List OpP)} {known : Int}
end
end Go.Proofs.YtflhpmgjehjjkaaGreatDoor

namespace Go.Proofs.YtflhpmgjehjjkaaGreatDoor
open Go.RowKit Go.Deep Go.Shelf Go.Sort Go.Maps

theorem ownsRow_len {w : World} {base : Nat} {e : TypeId} {size : Nat} {v : Value} {n : Nat} {xs : List Value} (h : w.ownsRow base e size v n xs) : n ≤ maxLen := by
  rcases h.2 with ⟨_, h0⟩ | ⟨g, cap, cur, _, _, _, h1, h2, _⟩
  · rw [h0]; exact Nat.zero_le _
  · exact Nat.le_trans h1 h2
section
variable {F : Nat → Prop} {rb : Nat} {hist : List (List OpP)} {known : Int} {w : World} {pb po : Nat} {R : Rest} {s : Pst} {g : Gh}
theorem errN_of {n : Int} (h : n ≠ 0) : errN n = errV n := by unfold errN; rw [if_neg h]

def PSpec (hist : List (List OpP)) (known : Int) (k : KeyP) (a : Int) (L : List Pc) : Prop := (pieRE hist known k a = 0 → PiecesOf hist k a.toNat L) ∧ (pieRE hist known k a ≠ 0 → L = [])
theorem PSpec.one {k : KeyP} {a : Int} {L M : List Pc} (h : PSpec hist known k a L) (h' : PSpec hist known k a M) : L = M := by
  rcases Decidable.em (pieRE hist known k a = 0) with e | e
  · exact (h.1 e).one (h'.1 e) fun _ => rfl
  · rw [h.2 e, h'.2 e]

def ESpec (hist : List (List OpP)) (known : Int) (k : KeyP) (a b f t : Int) (L : List ByteArray) : Prop := (everRE hist known k a b f t = 0 → EversIs hist k a.toNat b.toNat f t L) ∧ (everRE hist known k a b f t ≠ 0 → L = [])
theorem ESpec.one {k : KeyP} {a b f t : Int} {L M : List ByteArray} (h : ESpec hist known k a b f t L) (h' : ESpec hist known k a b f t M) : L = M := by
  rcases Decidable.em (everRE hist known k a b f t = 0) with e | e
  · exact (h.1 e).one (h'.1 e) fun _ => Iff.rfl
  · rw [h.2 e, h'.2 e]

def KSpec (hist : List (List OpP)) (known : Int) (a t : Int) (L : List KeyP) : Prop := (keyRE hist known a t = 0 → KeysIs hist a.toNat t L) ∧ (keyRE hist known a t ≠ 0 → L = [])
theorem KSpec.one {a t : Int} {L M : List KeyP} (h : KSpec hist known a t L) (h' : KSpec hist known a t M) : L = M := by
  rcases Decidable.em (keyRE hist known a t = 0) with e | e
  · exact (h.1 e).one (h'.1 e) fun _ => rfl
  · rw [h.2 e, h'.2 e]
end
end Go.Proofs.YtflhpmgjehjjkaaGreatDoor

namespace Go.Proofs.YtflhpmgjehjjkaaGreatDoor
open Go.RowKit Go.Deep Go.Shelf Go.Sort Go.Maps

/-- What a question's box holds. -/
structure AB (A : Nat) (kk ka : Int) (kw : ByteArray) (kb a b t f u : Int) (X : World) : Prop where
  c0 : X.cell? ⟨A, 0, none⟩ = some (.int .i64 kk)
  c1 : X.cell? ⟨A, 1, none⟩ = some (.int .i64 ka)
  c2 : X.cell? ⟨A, 2, none⟩ = some (.string kw)
  c3 : X.cell? ⟨A, 3, none⟩ = some (.int .i64 kb)
  c4 : X.cell? ⟨A, 4, none⟩ = some (.int .i64 a)
  c5 : X.cell? ⟨A, 5, none⟩ = some (.int .i64 b)
  c6 : X.cell? ⟨A, 6, none⟩ = some (.int .i64 t)
  c7 : X.cell? ⟨A, 7, none⟩ = some (.int .i64 f)
  c8 : X.cell? ⟨A, 8, none⟩ = some (.int .i64 u)
  lt : A < X.heap.size
theorem AB.below {A : Nat} {kk ka : Int} {kw : ByteArray} {kb a b t f u : Int} {X Y : World} (h : AB A kk ka kw kb a b t f u X) (k : Below X.heap.size X Y) : AB A kk ka kw kb a b t f u Y :=
  ⟨below_cell k h.lt h.c0, below_cell k h.lt h.c1, below_cell k h.lt h.c2, below_cell k h.lt h.c3, below_cell k h.lt h.c4, below_cell k h.lt h.c5, below_cell k h.lt h.c6, below_cell k h.lt h.c7, below_cell k h.lt h.c8, Nat.lt_of_lt_of_le h.lt k.size⟩
/-- The two pasts, in one world. -/
structure TP (F : Nat → Prop) (pb po rb : Nat) (R : Rest) (hist : List (List OpP)) (s : Pst) (g : Gh) (known : Int) (X : World) : Prop where
  p : PastIs X pb po R hist s g
  r : RP F X rb hist known
  k : s.gone = known
  e : ErrVar X
theorem TP.below {F : Nat → Prop} {pb po rb : Nat} {R : Rest} {hist : List (List OpP)} {s : Pst} {g : Gh} {known : Int} {X Y : World} (h : TP F pb po rb R hist s g known X) (b : Below X.heap.size X Y) : TP F pb po rb R hist s g known Y :=
  ⟨h.p.below b, h.r.below b, h.k, h.e.below b⟩
end Go.Proofs.YtflhpmgjehjjkaaGreatDoor

namespace Go.Proofs.YtflhpmgjehjjkaaGreatDoor
open Go.RowKit Go.Deep Go.Shelf Go.Sort Go.Maps

section
variable {pb rb : Nat} {R : Rest} {hist : List (List OpP)} {known : Int} {s : Pst} {g : Gh}
end
/-- Where the two pasts lie. -/
structure PZ (w0 Z : World) (pb rb : Nat) : Prop where
  z : Below w0.heap.size w0 Z
  b0 : w0.heap.size ≤ pb
  b1 : pb < rb
  b2 : rb < Z.heap.size
  ev : ErrVar w0
  pt : PowTab w0
theorem PZ.be {w0 Z X : World} {pb rb : Nat} (h : PZ w0 Z pb rb) (f : Fr (fun k => k = pb ∨ k = rb) Z X) : Below w0.heap.size w0 X :=
  h.z.trans (f.below (fun k _ e => by have := h.b0; have := h.b1; omega) h.z.size)
/-- Both pasts, in a world that began as Z. -/
structure PP (w0 Z : World) (pb rb : Nat) (R : Rest) (hist : List (List OpP)) (s : Pst) (g : Gh) (known : Int) (X : World) : Prop where
  pz : PZ w0 Z pb rb
  p : PastIs X pb 0 R hist s g
  r : RP (g.foot pb) X rb hist known
  k : s.gone = known
  fr : Fr (fun k => k = pb ∨ k = rb) Z X
  ft : ∀ k, g.foot pb k → k = pb ∨ Z.heap.size ≤ k
/-- Behind the real one's turn. -/
structure PH (w0 Z : World) (pb rb : Nat) (R : Rest) (hist hist' : List (List OpP)) (s' : Pst) (g' : Gh) (known known' : Int) (X : World) : Prop where
  pz : PZ w0 Z pb rb
  p : PastIs X pb 0 R hist' s' g'
  r : RP (g'.foot pb) X rb hist known
  k : s'.gone = known'
  fr : Fr (fun k => k = pb ∨ k = rb) Z X
  ft : ∀ k, g'.foot pb k → k = pb ∨ Z.heap.size ≤ k
section
variable {w0 Z X Y : World} {pb rb : Nat} {R : Rest} {hist hist' : List (List OpP)} {s s' : Pst} {g g' : Gh} {known known' : Int}
theorem PP.tp (h : PP w0 Z pb rb R hist s g known X) : TP (g.foot pb) pb 0 rb R hist s g known X := ⟨h.p, h.r, h.k, h.pz.ev.below (h.pz.be h.fr)⟩
theorem PP.be (h : PP w0 Z pb rb R hist s g known X) : Below w0.heap.size w0 X := h.pz.be h.fr
theorem PP.pow (h : PP w0 Z pb rb R hist s g known X) : PowTab X := h.pz.pt.below h.be
theorem PH.pow (h : PH w0 Z pb rb R hist hist' s' g' known known' X) : PowTab X := h.pz.pt.below (h.pz.be h.fr)
theorem PH.ev (h : PH w0 Z pb rb R hist hist' s' g' known known' X) : ErrVar X := h.pz.ev.below (h.pz.be h.fr)
theorem PP.below (h : PP w0 Z pb rb R hist s g known X) (b : Below X.heap.size X Y) : PP w0 Z pb rb R hist s g known Y :=
  ⟨h.pz, h.p.below b, h.r.below b, h.k, h.fr.trans (Fr.new b), h.ft⟩
/-- Changes that lay there from the start, and are in neither past. -/
theorem PP.ops (h : PP w0 Z pb rb R hist s g known X) {ao : Option Addr} {l : List OpP} (hl : opsAt Z ao l) (hn : l ≠ [] → ∀ b f, ao = some ⟨b, f, none⟩ → b < Z.heap.size ∧ b ≠ pb ∧ b ≠ rb) : opsAt X ao l ∧ (l ≠ [] → SepOps ao g pb) := by
  refine ⟨fun i o hi => ?_, fun h0 b f e hf => ?_⟩
  · obtain ⟨b, f, e, hc⟩ := hl i o hi
    obtain ⟨n1, n2, n3⟩ := hn (fun e => by subst e; simp at hi) b f e
    exact ⟨b, f, e, fun j u hj => (World.cell?_of_block (a := ⟨b, _, none⟩) (h.fr.block b n1 (fun e => by omega))).trans (hc j u hj)⟩
  · obtain ⟨n1, n2, n3⟩ := hn h0 b f e
    rcases h.ft b hf with e | e
    · exact n2 e
    · omega
theorem PH.ops (h : PH w0 Z pb rb R hist hist' s' g' known known' X) {ao : Option Addr} {l : List OpP} (hl : opsAt Z ao l) (hn : l ≠ [] → ∀ b f, ao = some ⟨b, f, none⟩ → b < Z.heap.size ∧ b ≠ pb ∧ b ≠ rb) : opsAt X ao l := fun i o hi => by
  obtain ⟨b, f, e, hc⟩ := hl i o hi
  obtain ⟨n1, n2, n3⟩ := hn (fun e => by subst e; simp at hi) b f e
  exact ⟨b, f, e, fun j u hj => (World.cell?_of_block (a := ⟨b, _, none⟩) (h.fr.block b n1 (fun e => by omega))).trans (hc j u hj)⟩
end
/-! ### What comes in -/
end Go.Proofs.YtflhpmgjehjjkaaGreatDoor
