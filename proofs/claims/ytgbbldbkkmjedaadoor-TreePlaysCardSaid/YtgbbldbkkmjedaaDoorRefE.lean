/- The document's tree: what Add, Drop, Span answer in every case. -/
import Derived.Test.YtgbbldbkkmjedaaDoorRefD
import Derived.Test.YtgbbldbkkmjedaaDoorRefF
namespace Go.Proofs.YtgbbldbkkmjedaaDoor
open Go.RowKit Go.Shelf Go.Sort

theorem rfind_at (id : Int) (w : World) (base wb : Nat) (R : List It) (vi vs : Value) (h : RefAt w base wb R vi vs) (hs : SrtI R) (hlen : R.length < 1000000) :
    ∀ W, Below w.heap.size w W → Calls Tryd.prog 54 #[.pointer (some ⟨wb, 0, none⟩), .int .i64 id] W fun e w' => e = .returned (.tuple #[.int .i64 (posR R id : Int), .bool (hasR R id)]) ∧ Below W.heap.size W w' :=
  fun W hB => rfind_any id W base wb R vi vs (h.below hB) hs hlen

/-- What a call that may write leaves. -/
def RStep (base wb : Nat) (R : List It) (n : Int) (vi vs : Value) (w : World) (e : Ending) (w' : World) : Prop :=
  e = .returned (.int .i64 n) ∧ ∃ vi' vs', RefAt w' base wb R vi' vs' ∧ Fr (· = wb) w w' ∧ ∀ k, rfoot wb vi' vs' k → rfoot wb vi vs k ∨ w.heap.size ≤ k
theorem RDone.step {base wb : Nat} {R : List It} {n : Int} {w w' : World} {e : Ending} (vi vs : Value) (h : RDone base wb R n w e w') : RStep base wb R n vi vs w e w' := by
  obtain ⟨h1, a, b, h2, h3, h4⟩ := h
  exact ⟨h1, a, b, h2, h3, fun k hk => (h4 k hk).imp (fun e => Or.inl e) id⟩
theorem rstep_same {w w' : World} {base wb : Nat} {R : List It} {vi vs : Value} (h : RefAt w base wb R vi vs) (hb : Below w.heap.size w w') (n : Int) : RStep base wb R n vi vs w (.returned (.int .i64 n)) w' :=
  ⟨rfl, vi, vs, h.below hb, Fr.new hb, fun _ hk => Or.inl hk⟩

set_option maxRecDepth 100000 in
theorem radd_range (id f t : Int) (w : World) (v : Value) (hid : inB id 0 1048576 = false) :
    Calls Tryd.prog 9 #[v, .int .i64 id, .agg #[.int .i64 f, .int .i64 t]] w fun e w' => e = .returned (.int .i64 2) ∧ Below w.heap.size w w' := by
  have hI := fun W => in_any id 0 1048576 W
  rw [hid] at hI
  clear hid
  go_enter Tryd.func9, Tryd.ntmps9
  go_wp2_with fail
  refine (hI _).mono ?_
  rintro e w1 ⟨rfl, rfl⟩
  go_wp2_with fail
  go_ret
  exact ⟨rfl, (Below.refl _ _).alloc (Nat.le_refl _) _⟩
set_option maxRecDepth 100000 in
theorem radd_arg (id f t : Int) (w : World) (v : Value) (hid : inB id 0 1048576 = true) (hr : rightB f t = false) :
    Calls Tryd.prog 9 #[v, .int .i64 id, .agg #[.int .i64 f, .int .i64 t]] w fun e w' => e = .returned (.int .i64 1) ∧ Below w.heap.size w w' := by
  have hI := fun W => in_any id 0 1048576 W
  have hRR := fun W => rright_any f t W
  rw [hid] at hI
  rw [hr] at hRR
  clear hid hr
  go_enter Tryd.func9, Tryd.ntmps9
  go_wp2_with fail
  refine (hI _).mono ?_
  rintro e w1 ⟨rfl, rfl⟩
  have B0 : Below w.heap.size w (w.alloc (.cells #[.int .i64 f, .int .i64 t] 34)) := (Below.refl _ _).alloc (Nat.le_refl _) _
  go_wp2_with fail
  refine (hRR _).mono ?_
  rintro e w2 ⟨rfl, b2⟩
  have B2 := Lib.hid (B0.trans (b2.mono B0.size))
  clear b2 B0 hI hRR
  go_wp2_with fail
  go_ret
  exact ⟨rfl, B2.out⟩
set_option maxRecDepth 100000 in
set_option maxHeartbeats 1000000 in
theorem radd_twice (id f t : Int) (w : World) (base wb : Nat) (R : List It) (vi vs : Value) (h : RefAt w base wb R vi vs) (hs : SrtI R) (hlen : R.length < 1000000) (hid : inB id 0 1048576 = true) (hr : rightB f t = true) (hx : hasR R id = true) :
    Calls Tryd.prog 9 #[.pointer (some ⟨wb, 0, none⟩), .int .i64 id, .agg #[.int .i64 f, .int .i64 t]] w fun e w' => e = .returned (.int .i64 9) ∧ Below w.heap.size w w' := by
  have hF := rfind_at id w base wb R vi vs h hs hlen
  rw [hx] at hF
  have hI := fun W => in_any id 0 1048576 W
  have hRR := fun W => rright_any f t W
  rw [hid] at hI
  rw [hr] at hRR
  have HF := Lib.hid hF
  clear hid hr hx h hF
  go_enter Tryd.func9, Tryd.ntmps9
  go_wp2_with fail
  refine (hI _).mono ?_
  rintro e w1 ⟨rfl, rfl⟩
  have B0 : Below w.heap.size w (w.alloc (.cells #[.int .i64 f, .int .i64 t] 34)) := (Below.refl _ _).alloc (Nat.le_refl _) _
  go_wp2_with fail
  refine (hRR _).mono ?_
  rintro e w2 ⟨rfl, b2⟩
  have B2 := Lib.hid (B0.trans (b2.mono B0.size))
  clear b2 B0 hI hRR
  go_wp2_with fail
  refine (HF.out _ B2.out).mono ?_
  rintro e w3 ⟨rfl, b3⟩
  have B3 := Lib.hid (B2.out.trans (b3.mono B2.out.size))
  clear b3
  go_wp2_with fail
  go_ret
  exact ⟨rfl, B3.out⟩
set_option maxRecDepth 100000 in
set_option maxHeartbeats 1000000 in
theorem radd_full (id f t : Int) (w : World) (base wb : Nat) (R : List It) (vi vs : Value) (h : RefAt w base wb R vi vs) (hs : SrtI R) (hlen : R.length < 1000000) (hid : inB id 0 1048576 = true) (hr : rightB f t = true) (hx : hasR R id = false) (hl : 4000 ≤ R.length) :
    Calls Tryd.prog 9 #[.pointer (some ⟨wb, 0, none⟩), .int .i64 id, .agg #[.int .i64 f, .int .i64 t]] w fun e w' => e = .returned (.int .i64 12) ∧ Below w.heap.size w w' := by
  have hF := rfind_at id w base wb R vi vs h hs hlen
  rw [hx] at hF
  have hI := fun W => in_any id 0 1048576 W
  have hRR := fun W => rright_any f t W
  rw [hid] at hI
  rw [hr] at hRR
  have hwl : wb < w.heap.size := Nat.lt_of_lt_of_le h.lt h.hb
  obtain ⟨ao, cap, rfl, _, _⟩ := ownsRow_slice h.ids
  have c0 := (rt_cells h.cells).1
  have hl4 : decide ((4000 : Int) ≤ (R.length : Int)) = true := by simp; omega
  have HF := Lib.hid hF
  clear hid hr hx h hF
  go_enter Tryd.func9, Tryd.ntmps9
  go_wp2_with fail
  refine (hI _).mono ?_
  rintro e w1 ⟨rfl, rfl⟩
  have B0 : Below w.heap.size w (w.alloc (.cells #[.int .i64 f, .int .i64 t] 34)) := (Below.refl _ _).alloc (Nat.le_refl _) _
  go_wp2_with fail
  refine (hRR _).mono ?_
  rintro e w2 ⟨rfl, b2⟩
  have B2 := Lib.hid (B0.trans (b2.mono B0.size))
  clear b2 B0 hI hRR
  go_wp2_with fail
  refine (HF.out _ B2.out).mono ?_
  rintro e w3 ⟨rfl, b3⟩
  have B3 := Lib.hid (B2.out.trans (b3.mono B2.out.size))
  have c0' := below_cell B3.out hwl c0
  clear b3 c0
  go_wp2_with fail
  go_ret
  exact ⟨rfl, B3.out⟩

/-- What Add answers. -/
def addE (R : List It) (id f t : Int) : Int := if 0 ≤ id ∧ id ≤ 1048576 then if rightB f t then if hasR R id then 9 else if 4000 ≤ R.length then 12 else 0 else 1 else 2
def addR (R : List It) (id f t : Int) : List It := if addE R id f t = 0 then putR R (f, id, t) else R
theorem inB_iff (id : Int) : inB id 0 1048576 = decide (0 ≤ id ∧ id ≤ 1048576) := rfl
theorem radd_any (id f t : Int) (w : World) (base wb : Nat) (R : List It) (vi vs : Value) (h : RefAt w base wb R vi vs) (hs : SrtI R) (hlen : R.length < 1000000) :
    Calls Tryd.prog 9 #[.pointer (some ⟨wb, 0, none⟩), .int .i64 id, .agg #[.int .i64 f, .int .i64 t]] w (RStep base wb (addR R id f t) (addE R id f t) vi vs w) := by
  unfold addR addE
  by_cases c1 : 0 ≤ id ∧ id ≤ 1048576
  · have hid : inB id 0 1048576 = true := by rw [inB_iff]; exact decide_eq_true c1
    rw [if_pos c1]
    cases hr : rightB f t
    · refine (radd_arg id f t w _ hid hr).mono ?_
      rintro e w' ⟨rfl, hb⟩
      exact rstep_same h hb 1
    · rw [if_pos rfl]
      cases hx : hasR R id
      · simp only [Bool.false_eq_true, if_false]
        by_cases c4 : 4000 ≤ R.length
        · rw [if_pos c4]
          refine (radd_full id f t w base wb R vi vs h hs hlen hid hr hx c4).mono ?_
          rintro e w' ⟨rfl, hb⟩
          exact rstep_same h hb 12
        · rw [if_neg c4]
          simp only [if_true]
          have hF := rfind_at id w base wb R vi vs h hs hlen
          rcases h.nz with ⟨e1, e2⟩ | ⟨n1, n2⟩
          · subst e1 e2
            have hR : R = [] := by
              rcases h.ids.2 with ⟨_, hn⟩ | ⟨g, cap, cur, e1, _⟩
              · exact List.eq_nil_of_length_eq_zero hn
              · cases e1
            subst hR
            exact (radd_nil id f t w base wb h c1.1 c1.2 hr hF).mono fun e w' hd => hd.step _ _
          · obtain ⟨b, cap, e1⟩ : ∃ b cap, vi = .slice (some ⟨b, 0, none⟩) R.length cap := by
              rcases h.ids.2 with ⟨e, _⟩ | ⟨g, cap, cur, e, _⟩
              · exact absurd e n1
              · exact ⟨g, cap, e⟩
            obtain ⟨b2, cap2, e2⟩ : ∃ b cap, vs = .slice (some ⟨b, 0, none⟩) R.length cap := by
              rcases h.sps.2 with ⟨e, _⟩ | ⟨g, cap, cur, e, _⟩
              · exact absurd e n2
              · exact ⟨g, cap, e⟩
            exact (radd_ok id f t w base wb R vi vs h (by omega) c1.1 c1.2 hr hx b cap b2 cap2 e1 e2 hF).mono fun e w' hd => hd.step _ _
      · simp only [if_true]
        refine (radd_twice id f t w base wb R vi vs h hs hlen hid hr hx).mono ?_
        rintro e w' ⟨rfl, hb⟩
        exact rstep_same h hb 9
  · have hid : inB id 0 1048576 = false := by rw [inB_iff]; exact decide_eq_false c1
    rw [if_neg c1]
    refine (radd_range id f t w _ hid).mono ?_
    rintro e w' ⟨rfl, hb⟩
    exact rstep_same h hb 2
end Go.Proofs.YtgbbldbkkmjedaaDoor
