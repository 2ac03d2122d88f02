/- A Tree and the document's one, side by side. -/
import Derived.Test.YtgbbldbkkmjedaaDoorPlayA
import Derived.Test.YtgbbldbkkmjedaaDoorErrC
import Derived.Test.YtgbbldbkkmjedaaDoorRefJ
namespace Go.Proofs.YtgbbldbkkmjedaaDoor
open Go.RowKit Go.Deep Go.Shelf Go.Sort Go.Maps

/-- What is known of both, in a world; the blocks of S are of neither. -/
structure Play (S : Nat → Prop) (B tb wb : Nat) (L R : List It) (w : World) : Prop where
  ex : ∃ t mb vi vs, TreeAt w tb L t mb ∧ RefAt w (wb + 1) wb R vi vs ∧ (∀ k, foot tb t mb k → B ≤ k) ∧ (∀ k, foot tb t mb k → ¬ rfoot wb vi vs k) ∧ (∀ k, S k → ¬ foot tb t mb k)
  hb : B ≤ w.heap.size
  lb : B ≤ wb
  sf : ∀ k, S k → k < w.heap.size ∧ k ≠ wb
theorem Play.below {S : Nat → Prop} {B tb wb : Nat} {L R : List It} {w w' : World} (h : Play S B tb wb L R w) (hb : Below w.heap.size w w') : Play S B tb wb L R w' := by
  obtain ⟨⟨t, mb, vi, vs, h1, h2, h3, h4⟩, h5, h6, h7⟩ := h
  exact ⟨⟨t, mb, vi, vs, h1.below hb, h2.below hb, h3, h4⟩, Nat.le_trans h5 hb.size, h6, fun k hk => ⟨Nat.lt_of_lt_of_le (h7 k hk).1 hb.size, (h7 k hk).2⟩⟩
theorem Play.drew {S : Nat → Prop} {B tb wb : Nat} {L R : List It} {w : World} (h : Play S B tb wb L R w) : Play S B tb wb L R w.drew := h.below (Below.refl _ w).drew
theorem Play.permL {S : Nat → Prop} {B tb wb : Nat} {L L' R : List It} {w : World} (h : Play S B tb wb L R w) (hp : L.Perm L') : Play S B tb wb L' R w := by
  obtain ⟨⟨t, mb, vi, vs, h1, r⟩, h5, h6, h7⟩ := h
  exact ⟨⟨t, mb, vi, vs, h1.permL hp, r⟩, h5, h6, h7⟩
/-- A new block is of neither. -/
theorem Play.fresh {S : Nat → Prop} {B tb wb : Nat} {L R : List It} {w w' : World} (h : Play S B tb wb L R w) (hb : Below w.heap.size w w') (k : Nat) (hk : w.heap.size ≤ k) (hk' : k < w'.heap.size) : Play (· = k) B tb wb L R w' := by
  have hB := h.below hb
  obtain ⟨⟨t, mb, vi, vs, h1, h2, h3, h4, _⟩, h5, h6, h7⟩ := h
  refine ⟨⟨t, mb, vi, vs, h1.below hb, h2.below hb, h3, h4, ?_⟩, hB.hb, h6, ?_⟩
  · rintro q rfl hq; have := h1.lt q hq; omega
  · rintro q rfl; exact ⟨hk', by have := h2.foot_lt wb (Or.inl rfl); omega⟩
theorem Play.forget {S : Nat → Prop} {B tb wb : Nat} {L R : List It} {w : World} (h : Play S B tb wb L R w) : Play (fun _ => False) B tb wb L R w := by
  obtain ⟨⟨t, mb, vi, vs, h1, h2, h3, h4, _⟩, h5, h6, h7⟩ := h
  exact ⟨⟨t, mb, vi, vs, h1, h2, h3, h4, fun k hk => hk.elim⟩, h5, h6, fun k hk => hk.elim⟩
theorem rfoot_ge {w : World} {base wb : Nat} {R : List It} {vi vs : Value} (h : RefAt w base wb R vi vs) (k : Nat) (hk : rfoot wb vi vs k) : wb ≤ k := by
  rcases hk with e | e | e
  · omega
  · have := (h.ids.lt k e).1; have := h.lt; omega
  · have := (h.sps.lt k e).1; have := h.lt; omega

theorem play_addT {S : Nat → Prop} {B tb wb : Nat} {L R : List It} {w : World} (h : Play S B tb wb L R w) (id f t : Int) :
    Calls Tryd.prog 8 #[.pointer (some ⟨tb, 0, none⟩), .int .i64 id, .agg #[.int .i64 f, .int .i64 t]] w fun e w' => e = .returned (errVal (addE L id f t)) ∧ Play S B tb wb (if addE L id f t = 0 then (f, id, t) :: L else L) R w' ∧ Below B w w' ∧ ∀ k, S k → w'.heap[k]? = w.heap[k]? := by
  have hP := h
  obtain ⟨⟨T, mb, vi, vs, h1, h2, h3, h4, h8⟩, h5, h6, h7⟩ := h
  have same : ∀ n : Int, n ≠ 0 → ∀ (e : Ending) (w' : World), e = .returned (errV n) ∧ Below w.heap.size w w' → e = .returned (errVal n) ∧ Play S B tb wb (if n = 0 then (f, id, t) :: L else L) R w' ∧ Below B w w' ∧ ∀ k, S k → w'.heap[k]? = w.heap[k]? := by
    rintro n hn e w' ⟨he, hb⟩
    refine ⟨by rw [he]; unfold errVal; rw [if_neg hn], by rw [if_neg hn]; exact hP.below hb, hb.mono h5, fun k hk => hb.block k (h7 k hk).1⟩
  unfold addE
  by_cases c1 : 0 ≤ id ∧ id ≤ 1048576
  · simp only [c1, and_self, if_true]
    cases hr : rightB f t
    · simp only [Bool.false_eq_true, if_false]
      exact (tadd_arg id f t w _ c1.1 c1.2 hr).mono fun e w' he => same 1 (by decide) e w' he
    · simp only [if_true]
      cases hx : hasR L id
      · simp only [Bool.false_eq_true, if_false]
        by_cases c4 : 4000 ≤ L.length
        · simp only [c4, if_true]
          exact (tadd_full id f t w tb L T mb h1 c1.1 c1.2 hr hx c4).mono fun e w' he => same 12 (by decide) e w' he
        · simp only [c4, if_false, if_true]
          refine (tadd_ok id f t w tb L T mb h1 c1.1 c1.2 hr hx (by omega)).mono ?_
          rintro e w' ⟨t', m', rfl, T', F', S'⟩
          refine ⟨rfl, ⟨⟨t', m', vi, vs, T', h2.frame F' (fun k hk hf => h4 k hf hk), ?_, ?_, ?_⟩, Nat.le_trans h5 F'.size, h6, fun k hk => ⟨Nat.lt_of_lt_of_le (h7 k hk).1 F'.size, (h7 k hk).2⟩⟩, F'.below (fun k _ e => h3 k e) h5, fun k hk => F'.block k (h7 k hk).1 (h8 k hk)⟩
          · intro k hk
            rcases S' k hk with e | e
            · exact h3 k e
            · omega
          · intro k hk hf
            rcases S' k hk with e | e
            · exact h4 k e hf
            · have := h2.foot_lt k hf; omega
          · intro k hk hf
            rcases S' k hf with e | e
            · exact h8 k hk e
            · have := (h7 k hk).1; omega
      · simp only [if_true]
        exact (tadd_twice id f t w tb L T mb h1 c1.1 c1.2 hr hx).mono fun e w' he => same 9 (by decide) e w' he
  · simp only [c1, if_false]
    exact (tadd_range id f t w _ (by omega)).mono fun e w' he => same 2 (by decide) e w' he

/-- The same of the document's tree. -/
theorem play_stepR {S : Nat → Prop} {B tb wb : Nat} {L R R' : List It} {w : World} {n : Int} (h : Play S B tb wb L R w) {f : FuncId} {args : Array Value}
    (hs : ∀ vi vs, RefAt w (wb + 1) wb R vi vs → Calls Tryd.prog f args w (RStep (wb + 1) wb R' n vi vs w)) :
    Calls Tryd.prog f args w fun e w' => e = .returned (.int .i64 n) ∧ Play S B tb wb L R' w' ∧ Below B w w' ∧ ∀ k, S k → w'.heap[k]? = w.heap[k]? := by
  obtain ⟨⟨T, mb, vi, vs, h1, h2, h3, h4, h8⟩, h5, h6, h7⟩ := h
  refine (hs vi vs h2).mono fun e w' he => ?_
  obtain ⟨he, vi', vs', hR, hF, hf⟩ := he
  refine ⟨he, ⟨⟨T, mb, vi', vs', h1.frame hF (fun k hk e => h4 k hk (Or.inl e)), hR, h3, fun k hk hf' => ?_, h8⟩, Nat.le_trans h5 hF.size, h6, fun k hk => ⟨Nat.lt_of_lt_of_le (h7 k hk).1 hF.size, (h7 k hk).2⟩⟩, hF.below (fun k _ e => by omega) h5, fun k hk => hF.block k (h7 k hk).1 (h7 k hk).2⟩
  rcases hf k hf' with e | e
  · exact h4 k hk e
  · have := h1.lt k hk; omega
theorem play_addR {S : Nat → Prop} {B tb wb : Nat} {L R : List It} {w : World} (h : Play S B tb wb L R w) (hs : SrtI R) (hlen : R.length < 1000000) (id f t : Int) :
    Calls Tryd.prog 9 #[.pointer (some ⟨wb, 0, none⟩), .int .i64 id, .agg #[.int .i64 f, .int .i64 t]] w fun e w' => e = .returned (.int .i64 (addE R id f t)) ∧ Play S B tb wb L (addR R id f t) w' ∧ Below B w w' ∧ ∀ k, S k → w'.heap[k]? = w.heap[k]? :=
  play_stepR h fun vi vs h2 => radd_any id f t w (wb + 1) wb R vi vs h2 hs hlen

/-- What Drop answers. -/
def dropE (R : List It) (id : Int) : Int := if hasR R id then 0 else 7
def dropR (R : List It) (id : Int) : List It := if hasR R id then takeR R id else R
theorem play_dropT {S : Nat → Prop} {B tb wb : Nat} {L' R : List It} {w : World} (x : It) (h : Play S B tb wb (x :: L') R w) (hi : i64 x.2.1) (hl : L'.length < 4000) :
    Calls Tryd.prog 12 #[.pointer (some ⟨tb, 0, none⟩), .int .i64 x.2.1] w fun e w' => e = .returned .nilIface ∧ Play S B tb wb L' R w' ∧ Below B w w' ∧ ∀ k, S k → w'.heap[k]? = w.heap[k]? := by
  obtain ⟨⟨T, mb, vi, vs, h1, h2, h3, h4, h8⟩, h5, h6, h7⟩ := h
  refine (tdrop_ok x.2.1 x.1 x.2.2 hi w tb L' T mb h1 hl).mono ?_
  rintro e w' ⟨t', m', rfl, T', F', S'⟩
  exact ⟨rfl, ⟨⟨t', m', vi, vs, T', h2.frame F' (fun k hk hf => h4 k hf hk), fun k hk => h3 k (S' k hk), fun k hk hf => h4 k (S' k hk) hf, fun k hk hf => h8 k hk (S' k hf)⟩, Nat.le_trans h5 F'.size, h6, fun k hk => ⟨Nat.lt_of_lt_of_le (h7 k hk).1 F'.size, (h7 k hk).2⟩⟩, F'.below (fun k _ e => h3 k e) h5, fun k hk => F'.block k (h7 k hk).1 (h8 k hk)⟩
theorem play_dropN {S : Nat → Prop} {B tb wb : Nat} {L R : List It} {w : World} (h : Play S B tb wb L R w) (id : Int) (hi : i64 id) (hx : hasR L id = false) :
    Calls Tryd.prog 12 #[.pointer (some ⟨tb, 0, none⟩), .int .i64 id] w fun e w' => e = .returned (errV 7) ∧ Play S B tb wb L R w' ∧ Below B w w' ∧ ∀ k, S k → w'.heap[k]? = w.heap[k]? := by
  have hP := h
  obtain ⟨⟨T, mb, vi, vs, h1, h2, h3, h4, h8⟩, h5, h6, h7⟩ := h
  exact (tdrop_missing id hi w tb L T mb h1 hx).mono fun e w' ⟨he, hb⟩ => ⟨he, hP.below hb, hb.mono h5, fun k hk => hb.block k (h7 k hk).1⟩
/-- What the two of them answer, where they are the same. -/
theorem play_meetsT {S : Nat → Prop} {B tb wb : Nat} {L R : List It} {w : World} (h : Play S B tb wb L R w) (f t : Int) (hl : L.length < 4294967296) : Calls Tryd.prog 15 #[.pointer (some ⟨tb, 0, none⟩), .agg #[.int .i64 f, .int .i64 t]] w (Ints w (meetsL L f t)) := by
  obtain ⟨⟨T, mb, vi, vs, h1, _⟩, _⟩ := h
  refine (tmeets_any f t w tb L T mb h1 hl).mono ?_
  rintro e w' ⟨v, rfl, own, b⟩
  obtain ⟨ao, cap, rfl, hi⟩ := ownsRow_ints own
  exact ⟨ao, cap, rfl, hi, b⟩
theorem play_atT {S : Nat → Prop} {B tb wb : Nat} {L R : List It} {w : World} (h : Play S B tb wb L R w) (p : Int) (hl : L.length < 4294967296) : Calls Tryd.prog 17 #[.pointer (some ⟨tb, 0, none⟩), .int .i64 p] w (Ints w (atL L p)) := by
  obtain ⟨⟨T, mb, vi, vs, h1, _⟩, _⟩ := h
  refine (tat_any p w tb L T mb h1 hl).mono ?_
  rintro e w' ⟨v, rfl, own, b⟩
  obtain ⟨ao, cap, rfl, hi⟩ := ownsRow_ints own
  exact ⟨ao, cap, rfl, hi, b⟩
theorem play_meetsR {S : Nat → Prop} {B tb wb : Nat} {L R : List It} {w : World} (h : Play S B tb wb L R w) (f t : Int) (hl : R.length < 1000000) : Calls Tryd.prog 16 #[.pointer (some ⟨wb, 0, none⟩), .agg #[.int .i64 f, .int .i64 t]] w (Ints w (selR (rmB f t) R)) := by
  obtain ⟨⟨T, mb, vi, vs, _, h2, _⟩, _⟩ := h
  refine (rmeets_any f t w (wb + 1) wb R vi vs h2 hl).mono ?_
  rintro e w' ⟨v, rfl, own, b⟩
  obtain ⟨ao, cap, rfl, hi⟩ := ownsRow_ints own
  exact ⟨ao, cap, rfl, hi, b⟩
theorem play_atR {S : Nat → Prop} {B tb wb : Nat} {L R : List It} {w : World} (h : Play S B tb wb L R w) (p : Int) (hl : R.length < 1000000) : Calls Tryd.prog 18 #[.pointer (some ⟨wb, 0, none⟩), .int .i64 p] w (Ints w (selR (raB p) R)) := by
  obtain ⟨⟨T, mb, vi, vs, _, h2, _⟩, _⟩ := h
  refine (rat_any p w (wb + 1) wb R vi vs h2 hl).mono ?_
  rintro e w' ⟨v, rfl, own, b⟩
  obtain ⟨ao, cap, rfl, hi⟩ := ownsRow_ints own
  exact ⟨ao, cap, rfl, hi, b⟩
theorem play_many {S : Nat → Prop} {B tb wb : Nat} {L R : List It} {w : World} (h : Play S B tb wb L R w) : Calls Tryd.prog 19 #[.pointer (some ⟨tb, 0, none⟩)] w fun e w' => e = .returned (.int .i64 (L.length : Int)) ∧ w = w' := by
  obtain ⟨⟨T, mb, vi, vs, h1, _⟩, _⟩ := h
  exact many_any w tb L T mb h1
/-- How high it is: some number; low enough; one at least where there is something. -/
theorem play_high {S : Nat → Prop} {B tb wb : Nat} {L R : List It} {w : World} (h : Play S B tb wb L R w) : ∃ n : Int, 0 ≤ n ∧ n ≤ (L.length : Int) ∧ (0 < L.length → 1 ≤ n) ∧ (∀ bits : Nat, L.length + 1 < 2 ^ bits → n ≤ 2 * (bits : Int)) ∧
    ∀ w', Below w.heap.size w w' → Calls Tryd.prog 20 #[.pointer (some ⟨tb, 0, none⟩)] w' fun e w'' => e = .returned (.int .i64 n) ∧ w' = w'' := by
  obtain ⟨⟨T, mb, vi, vs, h1, _⟩, _⟩ := h
  have hlen := h1.perm.length_eq
  refine ⟨hiT T, hi_nonneg h1.fit, by have := hi_le h1.fit; omega, fun h0 => ?_, fun bits hb => bal_low h1.fit h1.bal hlen hb, fun w' hb => thigh_any w' tb L T mb (h1.below hb)⟩
  cases T with
  | nil => simp [itemsT] at hlen; omega
  | node b o a l r => have := hi_pos h1.fit; omega
end Go.Proofs.YtgbbldbkkmjedaaDoor
