/- A map from numbers to spans, as a list of items (from, number, to), whatever their order. -/
import Derived.Maps.OwnSet
import Derived.Test.YtflhpmgjehjjkaaGreatDoorTreeNJn
import Derived.Test.YtflhpmgjehjjkaaGreatDoorFrameJn
namespace Go.Proofs.YtflhpmgjehjjkaaGreatDoor
open Go.RowKit Go.Maps

def spanD (f t : Int) : DataW Unit := .agg [.lit (.int .i64 f), .lit (.int .i64 t)]
/-- How a span reads as a map's element. -/
def spanR : Value → Option (DataW Unit × List MemPlace)
  | .agg ⟨[.int .i64 f, .int .i64 t]⟩ => some (spanD f t, [])
  | _ => none
theorem spanR_inv {v : Value} {z : DataW Unit × List MemPlace} (h : spanR v = some z) : ∃ f t, v = .agg #[.int .i64 f, .int .i64 t] ∧ z = (spanD f t, []) := by
  unfold spanR at h
  split at h
  · rename_i f t; cases h; exact ⟨f, t, rfl, rfl⟩
  · cases h
theorem spanD_inj {f t f' t' : Int} (h : spanD f t = spanD f' t') : f = f' ∧ t = t' := by
  simp [spanD] at h; exact h
def kI (id : Int) : Lit := .int .i64 id
theorem kI_ne {a b : Int} (h : a ≠ b) : kI a ≠ kI b := fun e => h (by simp [kI] at e; exact e)
def i64 (n : Int) : Prop := -9223372036854775808 ≤ n ∧ n ≤ 9223372036854775807
theorem wfI {n : Int} (h : i64 n) : (Lit.int .i64 n).wf = true := WalkArith.wf_i64 h
theorem kI_key {n : Int} : WideAt.IsKeyLit (kI n) := by trivial

/-- The datum D is that list. -/
structure MapIs (D : DataW Unit) (L : List It) : Prop where
  tidy : Tidy D
  size : Maps.size D = L.length
  has : ∀ id, Maps.has D (kI id) = L.any (fun x => x.2.1 == id)
  at' : ∀ x ∈ L, ∀ d, D.atKey (kI x.2.1) d = spanD x.1 x.2.2
theorem mapIs_nil : MapIs (.map []) [] := ⟨tidy_empty, rfl, fun _ => rfl, fun x hx => by cases hx⟩
theorem MapIs.perm {D : DataW Unit} {L L' : List It} (h : MapIs D L) (hp : L.Perm L') : MapIs D L' :=
  ⟨h.tidy, by rw [h.size, hp.length_eq], fun id => by rw [h.has id]; rw [Bool.eq_iff_iff]; simp only [List.any_eq_true]; exact ⟨fun ⟨x, hx, e⟩ => ⟨x, hp.mem_iff.1 hx, e⟩, fun ⟨x, hx, e⟩ => ⟨x, hp.mem_iff.2 hx, e⟩⟩, fun x hx => h.at' x (hp.mem_iff.2 hx)⟩
theorem MapIs.put {D : DataW Unit} {L : List It} (h : MapIs D L) (x : It) (hn : L.any (fun y => y.2.1 == x.2.1) = false) : MapIs (D.put (kI x.2.1) (spanD x.1 x.2.2)) (x :: L) := by
  refine ⟨h.tidy.put kI_key _, ?_, fun id => ?_, fun y hy d => ?_⟩
  · rw [size_put h.tidy, h.has, hn, h.size]; simp
  · by_cases e : id = x.2.1
    · subst e; rw [has_put_same h.tidy.isMap kI_key]; simp
    · rw [has_put_other (kI_ne e), h.has, List.any_cons]
      have : (x.2.1 == id) = false := by simpa using fun e' => e e'.symm
      rw [this, Bool.false_or]
  · rcases List.mem_cons.1 hy with rfl | hy
    · exact atKey_put_same h.tidy.isMap kI_key _ _
    · have : y.2.1 ≠ x.2.1 := fun e => by
        have : L.any (fun z => z.2.1 == x.2.1) = true := List.any_eq_true.2 ⟨y, hy, by simp [e]⟩
        rw [hn] at this; cases this
      rw [atKey_put_other (kI_ne this)]; exact h.at' y hy d
theorem MapIs.del {D : DataW Unit} {L : List It} (x : It) (h : MapIs D (x :: L)) (hn : L.any (fun y => y.2.1 == x.2.1) = false) : MapIs (D.del (kI x.2.1)) L := by
  have hx : Maps.has D (kI x.2.1) = true := by rw [h.has]; simp
  refine ⟨h.tidy.del _, ?_, fun id => ?_, fun y hy d => ?_⟩
  · have := size_del (k := kI x.2.1) h.tidy
    rw [hx, h.size] at this
    simp at this; omega
  · by_cases e : id = x.2.1
    · subst e; rw [has_del_same, hn]
    · rw [has_del_other (kI_ne e), h.has, List.any_cons]
      have : (x.2.1 == id) = false := by simpa using fun e' => e e'.symm
      rw [this, Bool.false_or]
  · have : y.2.1 ≠ x.2.1 := fun e => by
      have : L.any (fun z => z.2.1 == x.2.1) = true := List.any_eq_true.2 ⟨y, hy, by simp [e]⟩
      rw [hn] at this; cases this
    rw [atKey_del_other (kI_ne this)]; exact h.at' y (List.mem_cons_of_mem _ hy) d

/-- The map behind a value: nil, or a block. -/
def mapAt (w : World) (L : List It) : Option Nat → Prop
  | none => L = []
  | some m => ∃ D, w.ownsMap Tryz.prog 3 spanR m L.length D ∧ MapIs D L
theorem owns_tight {P : Program} {k : TypeId} {R : Value → Option (DataW Unit × List MemPlace)} {w : World} {b n : Nat} {D : DataW Unit} (h : w.ownsMap P k R b n D) : w.ownsMap P k R b (Maps.size D) D := by
  obtain ⟨es, clock, hb, F, hs, rfl⟩ := h
  refine ⟨es, clock, hb, F, ?_, rfl⟩
  show es.size ≤ (List.foldr DataW.insert [] _).length
  rw [length_sorted]; simp
theorem owns_frame {P : Program} {k : TypeId} {R : Value → Option (DataW Unit × List MemPlace)} {F : Nat → Prop} {w w' : World} {b n : Nat} {D : DataW Unit} (h : w.ownsMap P k R b n D) (hf : Fr F w w') (hn : ¬ F b) : w'.ownsMap P k R b n D := by
  obtain ⟨es, clock, hb, r⟩ := h
  exact ⟨es, clock, hf.keeps hb hn, r⟩
theorem mapAt.frame {F : Nat → Prop} {w w' : World} {L : List It} {mb : Option Nat} (h : mapAt w L mb) (hf : Fr F w w') (hn : ∀ m, mb = some m → ¬ F m) : mapAt w' L mb := by
  cases mb with
  | none => exact h
  | some m => obtain ⟨D, h1, h2⟩ := h; exact ⟨D, owns_frame h1 hf (hn m rfl), h2⟩
theorem intLaw : Keyed Tryz.prog 3 := int_keyed Tryz.underlying3
theorem zeroSpan (w : World) : (zeroValue 68).run Tryz.prog w = .ok (.agg #[.int .i64 0, .int .i64 0]) w := by kernel_rfl
end Go.Proofs.YtflhpmgjehjjkaaGreatDoor
