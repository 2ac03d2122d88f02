/- How far each node is from the end, in plain words: what holds on the way. -/
import Derived.Test.YtflhpmgjehjjkaaGreatDoorWkCJo
namespace Go.Proofs.YtflhpmgjehjjkaaGreatDoor

structure FI (E : List KeyP) (word : ByteArray) (y : Int) (c : List (Int × Int) × List Int) : Prop where
  nod : (c.1.map (·.1)).Nodup
  sub : ∀ p ∈ c.1, p.1 = y ∨ p.1 ∈ E.map (·.a)
  rng : ∀ p ∈ c.1, 0 ≤ p.2 ∧ p.2 < c.1.length
  root : c.1.lookup y = some 0
  ok : ∀ z d, c.1.lookup z = some d → (d = 0 → z = y) ∧ (0 < d → ∃ k ∈ E, k.a = z ∧ wordIs word k = true ∧ c.1.lookup k.b = some (d - 1))
  mor : ∀ z ∈ c.2, (c.1.lookup z).isSome = true
theorem FI.start (E : List KeyP) (word : ByteArray) (y : Int) : FI E word y ([(y, 0)], [y]) := by
  refine ⟨by simp, fun p hp => .inl (by simp at hp; rw [hp]), fun p hp => by simp at hp; subst hp; simp, by simp, fun z d h => ?_, fun z hz => ?_⟩
  · rw [List.lookup_cons] at h
    split at h
    · rename_i e; cases h; exact ⟨fun _ => eq_of_beq e, fun h => absurd h (by decide)⟩
    · cases h
  · simp at hz; subst hz; simp
theorem FI.fresh {E : List KeyP} {word : ByteArray} {y : Int} {c : List (Int × Int) × List Int} (h : FI E word y c) : FI E word y (c.1, []) := ⟨h.nod, h.sub, h.rng, h.root, h.ok, fun z hz => by cases hz⟩
theorem lookup_keep {L : List (Int × Int)} {z a d v : Int} (h : L.lookup z = some v) : (L ++ [(a, d)]).lookup z = some v := by
  rw [lookup_snoc, h]
theorem FI.in' {E : List KeyP} {word : ByteArray} {y x : Int} {c : List (Int × Int) × List Int} (h : FI E word y c) (hx : (c.1.lookup x).isSome = true) {k : KeyP} (hk : k ∈ E) : FI E word y (farIn word x c k) ∧ ((farIn word x c k).1.lookup x).isSome = true := by
  unfold farIn
  split
  · rename_i hc
    obtain ⟨h1, h2, h3⟩ := hc
    obtain ⟨dx, hdx⟩ := Option.isSome_iff_exists.1 hx
    have hn : c.1.lookup k.a = none := by simpa using h2
    rw [hdx, Option.getD_some]
    have hm := lookup_mem hdx
    obtain ⟨g1, g2⟩ := h.rng _ hm
    simp only at g1 g2
    refine ⟨⟨?_, fun p hp => ?_, fun p hp => ?_, lookup_keep h.root, fun z d hz => ?_, fun z hz => ?_⟩, by rw [lookup_keep hdx]; rfl⟩
    · rw [List.map_append]
      refine List.nodup_append.2 ⟨h.nod, by simp, fun a ha b hb e => ?_⟩
      simp at hb; subst hb; subst e
      obtain ⟨p, hp, e⟩ := List.mem_map.1 ha
      exact lookup_no hn p hp e
    · rcases List.mem_append.1 hp with hp | hp
      · exact h.sub p hp
      · simp at hp; subst hp; exact .inr (List.mem_map.2 ⟨k, hk, rfl⟩)
    · rw [List.length_append, List.length_singleton]
      rcases List.mem_append.1 hp with hp | hp
      · have := h.rng p hp; omega
      · simp at hp; subst hp; simp only; omega
    · rw [lookup_snoc] at hz
      cases hl : c.1.lookup z with
      | some v =>
        rw [hl] at hz; cases hz
        obtain ⟨o1, o2⟩ := h.ok z d hl
        exact ⟨o1, fun hd => by obtain ⟨k', q1, q2, q3, q4⟩ := o2 hd; exact ⟨k', q1, q2, q3, lookup_keep q4⟩⟩
      | none =>
        rw [hl] at hz
        simp only at hz
        split at hz
        · rename_i e
          cases hz
          have e' := eq_of_beq e
          exact ⟨fun e0 => by omega, fun _ => ⟨k, hk, e'.symm, h3, by rw [h1, show dx + 1 - 1 = dx by omega]; exact lookup_keep hdx⟩⟩
        · cases hz
    · rcases List.mem_append.1 hz with hz | hz
      · obtain ⟨v, hv⟩ := Option.isSome_iff_exists.1 (h.mor z hz)
        rw [lookup_keep hv]; rfl
      · simp at hz; subst hz
        rw [lookup_snoc, hn]; simp
  · exact ⟨h, hx⟩
theorem FI.fold {E : List KeyP} {word : ByteArray} {y x : Int} : ∀ {l : List KeyP} {c : List (Int × Int) × List Int}, FI E word y c → (c.1.lookup x).isSome = true → (∀ k ∈ l, k ∈ E) → FI E word y (l.foldl (farIn word x) c) ∧ ((l.foldl (farIn word x) c).1.lookup x).isSome = true
  | [], _, h, hx, _ => ⟨h, hx⟩
  | k :: l, c, h, hx, hl => by
    obtain ⟨h1, h2⟩ := h.in' hx (hl k (by simp))
    exact FI.fold (l := l) h1 h2 fun z hz => hl z (List.mem_cons_of_mem _ hz)
/-- What is there stays. -/
theorem farIn_keep {word : ByteArray} {x z v : Int} {c : List (Int × Int) × List Int} {k : KeyP} (h : c.1.lookup z = some v) : (farIn word x c k).1.lookup z = some v := by
  unfold farIn
  split
  · exact lookup_keep h
  · exact h
theorem farFold_keep {word : ByteArray} {x z v : Int} : ∀ {l : List KeyP} {c : List (Int × Int) × List Int}, c.1.lookup z = some v → (l.foldl (farIn word x) c).1.lookup z = some v
  | [], _, h => h
  | _k :: l, _, h => farFold_keep (l := l) (farIn_keep h)
theorem farTo_keep {E : List KeyP} {word : ByteArray} {z v : Int} : ∀ {l : List Int} {c : List (Int × Int) × List Int}, c.1.lookup z = some v → (l.foldl (farTo E word) c).1.lookup z = some v
  | [], _, h => h
  | _x :: l, _, h => farTo_keep (l := l) (farFold_keep h)
theorem FI.line {E : List KeyP} {word : ByteArray} {y : Int} : ∀ {l : List Int} {c : List (Int × Int) × List Int}, FI E word y c → (∀ x ∈ l, (c.1.lookup x).isSome = true) → FI E word y (l.foldl (farTo E word) c)
  | [], _, h, _ => h
  | x :: l, c, h, hl => by
    obtain ⟨h1, h2⟩ := FI.fold (l := E) h (hl x (by simp)) fun k hk => hk
    refine FI.line (l := l) h1 fun z hz => ?_
    obtain ⟨v, hv⟩ := Option.isSome_iff_exists.1 (hl z (List.mem_cons_of_mem _ hz))
    show (((E.foldl (farIn word x) c)).1.lookup z).isSome = true
    rw [farFold_keep hv]; rfl
theorem farS_ok (E : List KeyP) (word : ByteArray) (y : Int) : ∀ n, FI E word y (farS E word y n)
  | 0 => FI.start E word y
  | n + 1 => by
    rw [farS]
    split
    · exact farS_ok E word y n
    · exact FI.line (farS_ok E word y n).fresh fun x hx => (farS_ok E word y n).mor x hx
theorem FI.size {E : List KeyP} {word : ByteArray} {y : Int} {c : List (Int × Int) × List Int} (h : FI E word y c) : c.1.length ≤ E.length + 1 := by
  have := nodup_le (m := y :: E.map (·.a)) h.nod fun z hz => by
    obtain ⟨p, hp, rfl⟩ := List.mem_map.1 hz
    rcases h.sub p hp with e | e
    · rw [e]; simp
    · exact List.mem_cons_of_mem _ e
  simpa using this
/-- Both lists grow alike. -/
theorem farIn_grow (word : ByteArray) (x : Int) (c : List (Int × Int) × List Int) (k : KeyP) : (farIn word x c k).1.length + c.2.length = c.1.length + (farIn word x c k).2.length := by
  unfold farIn
  split
  · simp; omega
  · rfl
theorem farFold_grow (word : ByteArray) (x : Int) : ∀ (l : List KeyP) (c : List (Int × Int) × List Int), (l.foldl (farIn word x) c).1.length + c.2.length = c.1.length + (l.foldl (farIn word x) c).2.length
  | [], _ => rfl
  | k :: l, c => by
    have h1 := farFold_grow word x l (farIn word x c k)
    have h2 := farIn_grow word x c k
    show (l.foldl (farIn word x) (farIn word x c k)).1.length + c.2.length = c.1.length + (l.foldl (farIn word x) (farIn word x c k)).2.length
    omega
theorem farLine_grow (E : List KeyP) (word : ByteArray) : ∀ (l : List Int) (c : List (Int × Int) × List Int), (l.foldl (farTo E word) c).1.length + c.2.length = c.1.length + (l.foldl (farTo E word) c).2.length
  | [], _ => rfl
  | x :: l, c => by
    have h1 := farLine_grow E word l (farTo E word c x)
    have h2 := farFold_grow word x E c
    show (l.foldl (farTo E word) (farTo E word c x)).1.length + c.2.length = c.1.length + (l.foldl (farTo E word) (farTo E word c x)).2.length
    unfold farTo at *
    omega
/-! ### The next node of a way -/
structure BI (far : List (Int × Int)) (d best : Int) (l : List Int) : Prop where
  one : best = -1 ∨ (0 ≤ best ∧ far.lookup best = some (d - 1))
  got : (∃ y ∈ l, far.lookup y = some (d - 1)) → best ≠ -1
theorem BI.step {far : List (Int × Int)} {d best y : Int} {l : List Int} (h : BI far d best l) (hy : 0 ≤ y) : BI far d (bestIn far d best y) (l ++ [y]) := by
  unfold bestIn
  cases hl : far.lookup y with
  | none =>
    refine ⟨h.one, fun ⟨z, hz, e⟩ => ?_⟩
    rcases List.mem_append.1 hz with hz | hz
    · exact h.got ⟨z, hz, e⟩
    · simp at hz; subst hz; rw [hl] at e; cases e
  | some e =>
    simp only
    split
    · rename_i hc
      exact ⟨.inr ⟨hy, by rw [hl, hc.1]⟩, fun _ => by omega⟩
    · rename_i hc
      refine ⟨h.one, fun ⟨z, hz, e'⟩ => ?_⟩
      rcases List.mem_append.1 hz with hz | hz
      · exact h.got ⟨z, hz, e'⟩
      · simp at hz; subst hz
        rw [hl] at e'; cases e'
        rcases h.one with e0 | e0
        · exact absurd ⟨rfl, .inl (by omega)⟩ hc
        · omega
theorem BI.fold {far : List (Int × Int)} {d : Int} : ∀ {l m : List Int} {best : Int}, BI far d best m → (∀ y ∈ l, 0 ≤ y) → BI far d (l.foldl (bestIn far d) best) (m ++ l)
  | [], m, best, h, _ => by simpa using h
  | y :: l, m, best, h, hl => by
    have := BI.fold (l := l) (h.step (hl y (by simp))) fun z hz => hl z (List.mem_cons_of_mem _ hz)
    simpa using this
theorem best_ok {E : List KeyP} {word : ByteArray} {y x d : Int} {c : List (Int × Int) × List Int} (h : FI E word y c) (hE : ∀ k ∈ E, 0 ≤ k.b) (hx : c.1.lookup x = some d) (hd : 0 < d) : c.1.lookup (bestP E word c.1 x) = some (d - 1) ∧ 0 ≤ bestP E word c.1 x := by
  obtain ⟨k, hk, e1, e2, e3⟩ := (h.ok x d hx).2 hd
  have hn : ∀ z ∈ nextP E x word, 0 ≤ z := fun z hz => by
    obtain ⟨k', hk', rfl⟩ := List.mem_map.1 (next_sub z hz)
    exact hE k' hk'
  have hb := BI.fold (far := c.1) (d := d) (l := nextP E x word) (m := []) (best := -1) ⟨.inl rfl, fun ⟨z, hz, _⟩ => by cases hz⟩ hn
  have hm : k.b ∈ nextP E x word := List.mem_filterMap.2 ⟨k, hk, by rw [if_pos ⟨e1, e2⟩]⟩
  unfold bestP
  rw [hx, Option.getD_some]
  have h1 := hb.got ⟨k.b, by simpa using hm, e3⟩
  rcases hb.one with e | e
  · exact absurd e h1
  · exact ⟨e.2, e.1⟩
end Go.Proofs.YtflhpmgjehjjkaaGreatDoor
