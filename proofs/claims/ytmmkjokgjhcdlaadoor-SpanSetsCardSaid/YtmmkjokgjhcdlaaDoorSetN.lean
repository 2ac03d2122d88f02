/- Plain laws of sets of spans: what sorting and joining makes is the list without touching spans of the same times; how long such lists can be; what is left of spans less others. -/
import Derived.Test.YtmmkjokgjhcdlaaDoorSetE
import Derived.Test.YtmmkjokgjhcdlaaDoorSpanF
namespace Go.Proofs.YtmmkjokgjhcdlaaDoor
open Go.RowKit Go.Shelf Go.Sort

theorem norm_snoc : ∀ (m : List (Int × Int)) (a : Int × Int), Norm (m ++ [a]) ↔ Norm m ∧ (∀ q ∈ m, q.2 < a.1) ∧ a.1 < a.2
  | [], a => by simp [Norm]
  | p :: m, a => by
    have ih := norm_snoc m a
    simp only [List.cons_append, Norm, ih, List.mem_append, List.mem_cons, List.not_mem_nil, or_false]
    constructor
    · rintro ⟨h1, h2, h3, h4, h5⟩
      exact ⟨⟨h1, fun q hq => h2 q (.inl hq), h3⟩, fun q hq => hq.elim (fun e => by subst e; exact h2 a (.inr rfl)) (h4 q), h5⟩
    · rintro ⟨⟨h1, h2, h3⟩, h4, h5⟩
      exact ⟨h1, fun q hq => hq.elim (h2 q) (fun e => by subst e; exact h4 p (.inl rfl)), h3, fun q hq => h4 q (.inr hq), h5⟩
theorem norm_pos : ∀ {l : List (Int × Int)}, Norm l → ∀ q ∈ l, q.1 < q.2
  | [], _, q, hq => by cases hq
  | a :: l, hn, q, hq => by
    cases hq with
    | head => exact hn.1
    | tail _ h => exact norm_pos hn.2.2 q h

theorem mergeS_spec (r : List (Int × Int)) : ∀ (out : List (Int × Int)), Norm out → r.Pairwise (fun x y => x.1 ≤ y.1) → (∀ p ∈ out, ∀ x ∈ r, p.1 ≤ x.1) → (∀ x ∈ r, x.1 < x.2) →
    Norm (r.foldl mgStep out) ∧ (∀ t, inL (r.foldl mgStep out) t = (inL out t || inL r t)) ∧ (∀ p ∈ r.foldl mgStep out, (p.1 ∈ out.map Prod.fst ∨ p.1 ∈ r.map Prod.fst) ∧ (p.2 ∈ out.map Prod.snd ∨ p.2 ∈ r.map Prod.snd)) := by
  induction r with
  | nil => intro out hn _ _ _; exact ⟨hn, fun t => by simp, fun p hp => ⟨.inl (List.mem_map_of_mem hp), .inl (List.mem_map_of_mem hp)⟩⟩
  | cons x r ih =>
    intro out hn hs hle hpos
    rw [List.pairwise_cons] at hs
    have hx := hpos x (by simp)
    simp only [List.foldl_cons]
    rcases List.eq_nil_or_concat out with rfl | ⟨m, a, rfl⟩
    · rw [mgStep_nil]
      obtain ⟨h1, h2, h3⟩ := ih [x] ⟨hx, by simp, trivial⟩ hs.2 (fun p hp y hy => by simp at hp; subst hp; exact hs.1 y hy) (fun y hy => hpos y (by simp [hy]))
      refine ⟨h1, fun t => by rw [h2]; simp, fun p hp => ?_⟩
      have := h3 p hp
      simp at this ⊢
      exact this
    · rw [List.concat_eq_append] at *
      rw [mgStep_snoc]
      have hn0 := (norm_snoc m a).1 hn
      have hax : a.1 ≤ x.1 := hle a (by simp) x (by simp)
      by_cases hxa : x.1 ≤ a.2
      · rw [if_pos hxa]
        have hn1 : Norm (m ++ [(a.1, imax a.2 x.2)]) := (norm_snoc _ _).2 ⟨hn0.1, hn0.2.1, by show a.1 < imax a.2 x.2; unfold imax; omega⟩
        obtain ⟨h1, h2, h3⟩ := ih (m ++ [(a.1, imax a.2 x.2)]) hn1 hs.2 (fun p hp y hy => by
          simp only [List.mem_append, List.mem_cons, List.not_mem_nil, or_false] at hp
          rcases hp with hp | rfl
          · exact hle p (by simp [hp]) y (by simp [hy])
          · exact hle a (by simp) y (by simp [hy])) (fun y hy => hpos y (by simp [hy]))
        refine ⟨h1, fun t => ?_, fun p hp => ?_⟩
        · rw [h2, inL_append, inL_append, inL_cons x r]
          have : hasB a.1 (imax a.2 x.2) t = (hasB a.1 a.2 t || hasB x.1 x.2 t) := by
            unfold hasB imax; rw [← Bool.decide_or, decide_eq_decide]; omega
          simp only [inL_cons, inL_nil, Bool.or_false, this, Bool.or_assoc]
        · have h := h3 p hp
          simp only [List.map_append, List.map_cons, List.map_nil, List.mem_append, List.mem_cons, List.not_mem_nil, or_false] at h ⊢
          refine ⟨?_, ?_⟩
          · rcases h.1 with h | h
            · exact .inl h
            · exact .inr (.inr h)
          · rcases h.2 with h | h
            · rcases h with h | h
              · exact .inl (.inl h)
              · have : p.2 = a.2 ∨ p.2 = x.2 := by rw [h]; show imax a.2 x.2 = a.2 ∨ imax a.2 x.2 = x.2; unfold imax; omega
                rcases this with h | h
                · exact .inl (.inr h)
                · exact .inr (.inl h)
            · exact .inr (.inr h)
      · rw [if_neg hxa]
        have e : m ++ [a, x] = (m ++ [a]) ++ [x] := by simp
        rw [e]
        have hn1 : Norm ((m ++ [a]) ++ [x]) := (norm_snoc _ _).2 ⟨hn, fun q hq => by
          simp only [List.mem_append, List.mem_cons, List.not_mem_nil, or_false] at hq
          rcases hq with hq | rfl
          · have := hn0.2.1 q hq; omega
          · omega, hx⟩
        obtain ⟨h1, h2, h3⟩ := ih ((m ++ [a]) ++ [x]) hn1 hs.2 (fun p hp y hy => by
          simp only [List.mem_append, List.mem_cons, List.not_mem_nil, or_false] at hp
          rcases hp with hp | rfl
          · exact hle p (by simpa using hp) y (by simp [hy])
          · exact hs.1 y hy) (fun y hy => hpos y (by simp [hy]))
        refine ⟨h1, fun t => ?_, fun p hp => ?_⟩
        · rw [h2, inL_append, inL_cons x r]; simp [Bool.or_assoc]
        · have h := h3 p hp
          simp only [List.map_append, List.map_cons, List.map_nil, List.mem_append, List.mem_cons, List.not_mem_nil, or_false] at h ⊢
          refine ⟨?_, ?_⟩
          · rcases h.1 with (h | h) | h
            · exact .inl h
            · exact .inr (.inl h)
            · exact .inr (.inr h)
          · rcases h.2 with (h | h) | h
            · exact .inl h
            · exact .inr (.inl h)
            · exact .inr (.inr h)

theorem sortS_perm (l : List (Int × Int)) : (sortS l).Perm l := List.mergeSort_perm _ _
theorem sortS_sorted (l : List (Int × Int)) : (sortS l).Pairwise (fun x y => x.1 ≤ y.1) := by
  have h := List.pairwise_mergeSort (le := fun x y : Int × Int => !(ltOf cmpS) y x) (by intro a b c; simp only [cmpS_lt]; simp; omega) (by intro a b; simp only [cmpS_lt]; simp; omega) l
  exact h.imp (by intro a b; rw [cmpS_lt]; simp; omega)
theorem inL_perm {l m : List (Int × Int)} (h : l.Perm m) (t : Int) : inL l t = inL m t := by
  rw [Bool.eq_iff_iff, inL_iff, inL_iff]
  exact ⟨fun ⟨p, hp, h1⟩ => ⟨p, h.mem_iff.1 hp, h1⟩, fun ⟨p, hp, h1⟩ => ⟨p, h.mem_iff.2 hp, h1⟩⟩
theorem canon_spec (l : List (Int × Int)) (hpos : ∀ x ∈ l, x.1 < x.2) : Norm (canon l) ∧ (∀ t, inL (canon l) t = inL l t) ∧ ∀ p ∈ canon l, p.1 ∈ l.map Prod.fst ∧ p.2 ∈ l.map Prod.snd := by
  obtain ⟨h1, h2, h3⟩ := mergeS_spec (sortS l) [] trivial (sortS_sorted l) (fun p hp => by cases hp) (fun x hx => hpos x ((sortS_perm l).mem_iff.1 hx))
  refine ⟨h1, fun t => by show inL (mergeS (sortS l)) t = _; unfold mergeS; rw [h2]; simp [inL_perm (sortS_perm l) t], fun p hp => ?_⟩
  have h := h3 p hp
  simp only [List.map_nil, List.not_mem_nil, false_or] at h
  exact ⟨((sortS_perm l).map _).mem_iff.1 h.1, ((sortS_perm l).map _).mem_iff.1 h.2⟩
theorem right_pos {l : List (Int × Int)} (h : rightL l) : ∀ x ∈ l, x.1 < x.2 := fun x hx => by have := h x hx; simp [rightB] at this; omega
theorem right_of_norm {l m : List (Int × Int)} (hl : rightL l) (hn : Norm m) (h1 : ∀ p ∈ m, p.1 ∈ l.map Prod.fst) (h2 : ∀ p ∈ m, p.2 ∈ l.map Prod.snd) : rightL m := by
  intro p hp
  obtain ⟨a, ha, e1⟩ := List.mem_map.1 (h1 p hp)
  obtain ⟨b, hb, e2⟩ := List.mem_map.1 (h2 p hp)
  have k1 := hl a ha; have k2 := hl b hb; have k3 := norm_pos hn p hp
  unfold rightB at *
  simp only [decide_eq_true_eq] at *
  omega
theorem canon_right (l : List (Int × Int)) (h : rightL l) : rightL (canon l) := by
  obtain ⟨h1, _, h3⟩ := canon_spec l (right_pos h)
  exact right_of_norm h h1 (fun p hp => (h3 p hp).1) (fun p hp => (h3 p hp).2)
theorem canon_eq (l m : List (Int × Int)) (hl : ∀ x ∈ l, x.1 < x.2) (hm : Norm m) (h : ∀ t, inL l t = inL m t) : canon l = m := by
  obtain ⟨h1, h2, _⟩ := canon_spec l hl
  exact norm_ext h1 hm fun t => by rw [h2, h]

/-! ### How long -/
theorem nodup_len : ∀ (l E : List Int), l.Nodup → (∀ x ∈ l, x ∈ E) → l.length ≤ E.length
  | [], _, _, _ => Nat.zero_le _
  | x :: l, E, hn, h => by
    rw [List.nodup_cons] at hn
    have hx := h x (by simp)
    have := nodup_len l (E.erase x) hn.2 (fun y hy => (List.mem_erase_of_ne (fun e => hn.1 (by subst e; exact hy))).2 (h y (by simp [hy])))
    rw [List.length_erase_of_mem hx] at this
    have hp := List.length_pos_of_mem hx
    simp only [List.length_cons]; omega
theorem norm_nodup : ∀ {l : List (Int × Int)}, Norm l → (l.map Prod.fst).Nodup
  | [], _ => by simp
  | a :: l, hn => by
    rw [List.map_cons, List.nodup_cons]
    refine ⟨fun hc => ?_, norm_nodup hn.2.2⟩
    obtain ⟨q, hq, e⟩ := List.mem_map.1 hc
    have h1 := hn.2.1 q hq; have h2 := hn.1
    omega
theorem norm_len {l : List (Int × Int)} (hn : Norm l) (E : List Int) (h : ∀ p ∈ l, p.1 ∈ E) : l.length ≤ E.length := by
  have := nodup_len (l.map Prod.fst) E (norm_nodup hn) (fun x hx => by obtain ⟨p, hp, rfl⟩ := List.mem_map.1 hx; exact h p hp)
  simpa using this
/-- A beginning is a time that is so and the one ahead is not. -/
theorem norm_start : ∀ {l : List (Int × Int)}, Norm l → ∀ p ∈ l, inL l p.1 = true ∧ inL l (p.1 - 1) = false := by
  intro l hn p hp
  refine ⟨(inL_iff ..).2 ⟨p, hp, Int.le_refl _, norm_pos hn p hp⟩, ?_⟩
  rw [Bool.eq_false_iff]
  intro hc
  obtain ⟨q, hq, h1, h2⟩ := (inL_iff ..).1 hc
  induction l with
  | nil => cases hp
  | cons a l ih =>
    obtain ⟨n1, n2, n3⟩ := hn
    rcases List.mem_cons.1 hp with rfl | hp' <;> rcases List.mem_cons.1 hq with rfl | hq'
    · omega
    · have := n2 q hq'; omega
    · have := n2 p hp'; have := norm_pos n3 p hp'; omega
    · exact ih n3 hp' ((inL_iff ..).2 ⟨q, hq', h1, h2⟩) hq'
theorem start_mem {l : List (Int × Int)} {t : Int} (h1 : inL l t = true) (h2 : inL l (t - 1) = false) : t ∈ l.map Prod.fst := by
  obtain ⟨p, hp, h3, h4⟩ := (inL_iff ..).1 h1
  by_cases h : p.1 ≤ t - 1
  · have : inL l (t - 1) = true := (inL_iff ..).2 ⟨p, hp, h, by omega⟩
    rw [h2] at this; cases this
  · exact List.mem_map.2 ⟨p, hp, by omega⟩
theorem end_mem {l : List (Int × Int)} {t : Int} (h1 : inL l t = false) (h2 : inL l (t - 1) = true) : t ∈ l.map Prod.snd := by
  obtain ⟨p, hp, h3, h4⟩ := (inL_iff ..).1 h2
  by_cases h : t < p.2
  · have : inL l t = true := (inL_iff ..).2 ⟨p, hp, by omega, h⟩
    rw [h1] at this; cases this
  · exact List.mem_map.2 ⟨p, hp, by omega⟩

/-! ### What is left -/
theorem inL_flatMap {α : Type} (f : α → List (Int × Int)) (l : List α) (t : Int) : inL (l.flatMap f) t = l.any fun a => inL (f a) t := by
  induction l with
  | nil => rfl
  | cons a l ih => rw [List.flatMap_cons, inL_append, ih]; rfl
theorem lessL_in (a b c d t : Int) : inL (lessL a b c d) t = (hasB a b t && !hasB c d t) := by
  have hR : Ruled (lessP a b c d) [a, b, c, d] := (ruled_has a b _ (by simp) (by simp)).and (fun t t' ht h => by rw [ruled_same c d [a, b, c, d] (by simp) (by simp) t t' ht h])
  obtain ⟨_, h2⟩ := whereL_spec (lessP a b c d) [a, b, c, d] (sortI (endsLL [[(a, b), (c, d)]])) hR (sortI_sorted _) (fun x => by rw [← mem_sortI]; simp [endsLL, endsL])
  rw [← less_eq, h2]; rfl
theorem imax_eq (x y : Int) : imax x y = max x y := rfl
theorem imin_eq (x y : Int) : imin x y = min x y := rfl
theorem lessL_mem (a b c d : Int) : ∀ p ∈ lessL a b c d, a ≤ p.1 ∧ p.2 ≤ b ∧ p.1 < p.2 ∧ (p.1 = a ∨ p.1 = d) := by
  intro p hp
  unfold lessL at hp
  split at hp
  · rename_i h; simp at hp; subst hp; exact ⟨Int.le_refl _, Int.le_refl _, h.2, .inl rfl⟩
  · rename_i hno
    have hno : a < b → imax a c < imin b d := fun h => by
      rcases Int.lt_or_le (imax a c) (imin b d) with h1 | h1
      · exact h1
      · exact absurd ⟨by omega, h⟩ hno
    unfold lessParts part1 at hp
    rw [List.mem_append] at hp
    rcases hp with hp | hp
    · by_cases h1 : a < imin b c
      · rw [if_pos h1, List.mem_singleton] at hp; subst hp; have hov := hno (by simp only [imin_eq] at h1; omega); clear hno; rw [imax_eq, imin_eq] at hov; simp only [imin_eq] at h1 ⊢; exact ⟨by omega, by omega, by omega, by first | exact .inl trivial | omega⟩
      · rw [if_neg h1] at hp; cases hp
    · by_cases h1 : imax a d < b
      · rw [if_pos h1, List.mem_singleton] at hp; subst hp; have hov := hno (by simp only [imax_eq] at h1; omega); clear hno; rw [imax_eq, imin_eq] at hov; simp only [imax_eq] at h1 ⊢; exact ⟨by omega, by omega, by omega, by first | exact .inl trivial | omega⟩
      · rw [if_neg h1] at hp; cases hp
theorem lessL_norm (a b c d : Int) (hcd : c < d) : Norm (lessL a b c d) := by
  unfold lessL
  split
  · rename_i h; exact ⟨h.2, by simp, trivial⟩
  · rename_i h
    unfold lessParts part1
    by_cases h1 : a < imin b c <;> by_cases h2 : imax a d < b <;> simp only [h1, h2, if_true, if_false, List.append_nil, List.nil_append, List.cons_append, Norm, List.mem_cons, List.not_mem_nil, or_false, forall_eq, false_implies, implies_true, and_true, true_and] <;> simp only [imax_eq, imin_eq] at * <;> omega
def lessAll (l : List (Int × Int)) (b : Int × Int) : List (Int × Int) := l.flatMap fun a => lessL a.1 a.2 b.1 b.2
theorem norm_append : ∀ {l m : List (Int × Int)}, Norm l → Norm m → (∀ p ∈ l, ∀ q ∈ m, p.2 < q.1) → Norm (l ++ m)
  | [], _, _, hm, _ => hm
  | a :: l, m, hl, hm, h => ⟨hl.1, fun q hq => (List.mem_append.1 hq).elim (hl.2.1 q) (h a (by simp) q), norm_append hl.2.2 hm fun p hp => h p (by simp [hp])⟩
theorem lessAll_norm : ∀ {l : List (Int × Int)}, Norm l → ∀ b : Int × Int, b.1 < b.2 → Norm (lessAll l b)
  | [], _, _, _ => trivial
  | a :: l, hn, b, hb => by
    show Norm (lessL a.1 a.2 b.1 b.2 ++ lessAll l b)
    refine norm_append (lessL_norm _ _ _ _ hb) (lessAll_norm hn.2.2 b hb) fun p hp q hq => ?_
    obtain ⟨c, hc, hq⟩ := List.mem_flatMap.1 hq
    have h1 := lessL_mem _ _ _ _ p hp; have h2 := lessL_mem _ _ _ _ q hq; have h3 := hn.2.1 c hc
    omega
theorem lessAll_in (l : List (Int × Int)) (b : Int × Int) (t : Int) : inL (lessAll l b) t = (inL l t && !hasB b.1 b.2 t) := by
  unfold lessAll
  rw [inL_flatMap]
  simp only [lessL_in]
  unfold inL
  induction l with
  | nil => rfl
  | cons a l ih => simp only [List.any_cons, ih]; cases hasB a.1 a.2 t <;> cases hasB b.1 b.2 t <;> simp
theorem lessAll_len {l : List (Int × Int)} (hn : Norm l) (b : Int × Int) (hb : b.1 < b.2) : (lessAll l b).length ≤ l.length + 1 := by
  have := norm_len (lessAll_norm hn b hb) (b.2 :: l.map Prod.fst) fun p hp => by
    obtain ⟨c, hc, hp⟩ := List.mem_flatMap.1 hp
    have h := (lessL_mem _ _ _ _ p hp).2.2.2
    rcases h with h | h
    · rw [h]; exact List.mem_cons_of_mem _ (List.mem_map_of_mem hc)
    · rw [h]; simp
  simpa using this
def minusL (l m : List (Int × Int)) : List (Int × Int) := m.foldl lessAll l
theorem minusL_spec (m : List (Int × Int)) : ∀ (l : List (Int × Int)), Norm l → (∀ b ∈ m, b.1 < b.2) → Norm (minusL l m) ∧ (minusL l m).length ≤ l.length + m.length ∧ ∀ t, inL (minusL l m) t = (inL l t && !inL m t) := by
  induction m with
  | nil => intro l hn _; exact ⟨hn, by simp [minusL], fun t => by simp [minusL]⟩
  | cons b m ih =>
    intro l hn hb
    obtain ⟨h1, h2, h3⟩ := ih (lessAll l b) (lessAll_norm hn b (hb b (by simp))) (fun c hc => hb c (by simp [hc]))
    have h4 := lessAll_len hn b (hb b (by simp))
    refine ⟨h1, by have : minusL l (b :: m) = minusL (lessAll l b) m := rfl; rw [this, List.length_cons]; omega, fun t => ?_⟩
    show inL (minusL (lessAll l b) m) t = _
    rw [h3, lessAll_in, inL_cons]
    cases inL l t <;> cases hasB b.1 b.2 t <;> simp
theorem minusL_snoc (l m : List (Int × Int)) (k : Nat) (b : Int × Int) (h : m[k]? = some b) : minusL l (m.take (k + 1)) = lessAll (minusL l (m.take k)) b := by
  unfold minusL; rw [List.take_add_one, h]; simp [List.foldl_append]
theorem lessL_right (a b : Int × Int) (ha : rightB a.1 a.2 = true) : rightL (lessL a.1 a.2 b.1 b.2) := by
  intro p hp
  have h := lessL_mem _ _ _ _ p hp
  unfold rightB at *
  simp only [decide_eq_true_eq] at *
  omega
theorem minusL_right (m : List (Int × Int)) : ∀ l : List (Int × Int), rightL l → rightL (minusL l m) := by
  induction m with
  | nil => intro l h; exact h
  | cons b m ih =>
    intro l h
    refine ih (lessAll l b) fun p hp => ?_
    obtain ⟨c, hc, hp⟩ := List.mem_flatMap.1 hp
    exact lessL_right c b (h c hc) p hp
end Go.Proofs.YtmmkjokgjhcdlaaDoor
