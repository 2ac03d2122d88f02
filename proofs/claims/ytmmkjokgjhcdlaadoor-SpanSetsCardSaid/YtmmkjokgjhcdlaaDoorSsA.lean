/- span.Of where a span may not be; the law's own function literal; the plain law of SpanSets. -/
import Derived.Test.YtmmkjokgjhcdlaaDoorROf
import Derived.Test.YtmmkjokgjhcdlaaDoorSetH
import Derived.Test.YtmmkjokgjhcdlaaDoorSetL
import Derived.Test.YtmmkjokgjhcdlaaDoorErrC
namespace Go.Proofs.YtmmkjokgjhcdlaaDoor
open Go.RowKit Go.Shelf Go.Sort

/-- The first of some spans that may not be. -/
def firstBad (l : List (Int × Int)) (j : Nat) : Prop := (∃ x y, l[j]? = some (x, y) ∧ rightB x y = false) ∧ ∀ i x y, i < j → l[i]? = some (x, y) → rightB x y = true
theorem right_or_bad (l : List (Int × Int)) : rightL l ∨ ∃ j, firstBad l j := by
  induction l with
  | nil => exact Or.inl fun p hp => by cases hp
  | cons a l ih =>
    cases ha : rightB a.1 a.2
    · exact Or.inr ⟨0, ⟨a.1, a.2, rfl, ha⟩, fun i x y hi => by omega⟩
    · rcases ih with h | ⟨j, ⟨x, y, h1, h2⟩, h3⟩
      · exact Or.inl fun p hp => (List.mem_cons.1 hp).elim (fun e => by rw [e]; exact ha) (h p)
      · refine Or.inr ⟨j + 1, ⟨x, y, by simpa using h1, h2⟩, fun i x y hi hx => ?_⟩
        match i, hi, hx with
        | 0, _, hx => simp at hx; subst hx; exact ha
        | i + 1, hi, hx => exact h3 i x y (by omega) (by simpa using hx)

set_option maxRecDepth 100000 in
theorem of_bad (l : List (Int × Int)) (j : Nat) (ao : Option Addr) (cap : Nat) (w : World) (hl : spansAt w ao l) (hj : firstBad l j) (hlen : l.length ≤ 1000) :
    Calls Tryd.prog 7 #[.slice ao l.length cap] w fun e w' => ∃ v, e = .returned (.tuple #[.pointer none, v]) ∧ ErrIs w' v 1 j ∧ Below w.heap.size w w' := by
  have hjl : j < l.length := by
    obtain ⟨⟨x, y, h1, _⟩, _⟩ := hj
    exact (List.getElem?_eq_some_iff.1 h1).1
  have HJ := Lib.hid hj
  clear hj
  go_enter Tryd.func7, Tryd.ntmps7
  go_wp2
  go_loopw [12] (fun i wr => ∃ k : Nat, k ≤ j ∧ i = .int .i64 k ∧ Below w.heap.size w wr) (fun i _ => l.length - (intOf i).toNat)
  case atStart => exact ⟨0, by omega, rfl, Below.refl _ _⟩
  case round =>
    obtain ⟨k, hk, rfl, hB⟩ := hrel
    have hsz := hB.size
    have hlt : k < l.length := by omega
    obtain ⟨b, o, x, y, g1, rfl, c1, c2⟩ := spansAt_get hl hlt
    have hb := World.block_lt_of_cell? w _ c1
    have c1 := below_cell hB hb c1
    have c2 := below_cell hB hb c2
    have hR := fun W => right_any x y W
    by_cases hkj : k < j
    · have hxy : rightB x y = true := HJ.out.2 k x y hkj g1.out
      rw [hxy] at hR
      clear hxy
      go_wp2_with (go_at_call 24; refine (hR _).mono ?_; rintro e w1 ⟨rfl, hb1⟩)
      refine ⟨⟨k + 1, by omega, by go_num, ?_⟩, by simp [intOf]; omega⟩
      exact (hB.alloc hsz _).trans (hb1.mono (by simp; omega))
    · have hkj : k = j := by omega
      subst hkj
      have hxy : rightB x y = false := by
        obtain ⟨⟨x', y', h1, h2⟩, _⟩ := HJ.out
        have := g1.out
        rw [h1] at this
        simp at this
        obtain ⟨rfl, rfl⟩ := this
        exact h2
      rw [hxy] at hR
      clear hxy
      go_wp2_with (go_at_call 24; refine (hR _).mono ?_; rintro e w1 ⟨rfl, hb1⟩)
      go_ret2
      have hB1 := (hB.alloc hsz (.cells #[.int .i64 x, .int .i64 y] 29)).trans (hb1.mono (by simp; omega))
      exact ⟨_, rfl, Or.inr (Or.inr ⟨w1.heap.size, rfl, by simp, by simp⟩), hB1.alloc hB1.size _⟩

/-- What a round asks: what either has, what both have, what the first one has and the second one has not. -/
def opB (k : Nat) (u v : Bool) : Bool := match k with
  | 0 => u || v
  | 1 => u && v
  | _ => u && !v
def opK (k : Nat) (p q : List (Int × Int)) (t : Int) : Bool := opB k (inL p t) (inL q t)

theorem rin_keep (l : List (Int × Int)) (t : Int) (u : Bool) (hu : inL l t = u) (ao : Option Addr) (cap : Nat) (w X : World) (hl : spansAt w ao l) (hlen : l.length ≤ maxLen) (hB : Below w.heap.size w X) :
    Calls Tryd.prog 12 #[.slice ao l.length cap, .int .i64 t] X fun e w' => e = .returned (.bool u) ∧ Below X.heap.size X w' := by
  subst hu; exact rin_any l t ao cap X (hl.below hB) hlen

theorem keepC {w X Y : World} {bp bq bk : Nat} {u v x : Value} (h : X.cell? ⟨bp, 0, none⟩ = some u ∧ X.cell? ⟨bq, 0, none⟩ = some v ∧ X.cell? ⟨bk, 0, none⟩ = some x ∧ Below w.heap.size w X ∧ bp < X.heap.size ∧ bq < X.heap.size ∧ bk < X.heap.size) (hb : Below X.heap.size X Y) :
    Y.cell? ⟨bp, 0, none⟩ = some u ∧ Y.cell? ⟨bq, 0, none⟩ = some v ∧ Y.cell? ⟨bk, 0, none⟩ = some x ∧ Below w.heap.size w Y ∧ bp < Y.heap.size ∧ bq < Y.heap.size ∧ bk < Y.heap.size :=
  ⟨below_cell hb h.2.2.2.2.1 h.1, below_cell hb h.2.2.2.2.2.1 h.2.1, below_cell hb h.2.2.2.2.2.2 h.2.2.1, below_step h.2.2.2.1 hb, Nat.lt_of_lt_of_le h.2.2.2.2.1 hb.size, Nat.lt_of_lt_of_le h.2.2.2.2.2.1 hb.size, Nat.lt_of_lt_of_le h.2.2.2.2.2.2 hb.size⟩

set_option maxRecDepth 100000 in
set_option maxHeartbeats 1000000 in
theorem ss1_any (k : Nat) (hk : k < 3) (p q : List (Int × Int)) (bp bq bk : Nat) (ap aq : Option Addr) (cp cq : Nat) (w : World) (hcp : w.cell? ⟨bp, 0, none⟩ = some (.slice ap p.length cp)) (hcq : w.cell? ⟨bq, 0, none⟩ = some (.slice aq q.length cq)) (hck : w.cell? ⟨bk, 0, none⟩ = some (.int .i64 k))
    (hp : spansAt w ap p) (hq : spansAt w aq q) (hpl : p.length ≤ maxLen) (hql : q.length ≤ maxLen) :
    PredB Tryd.prog 15 #[.pointer (some ⟨bp, 0, none⟩), .pointer (some ⟨bq, 0, none⟩), .pointer (some ⟨bk, 0, none⟩)] (opK k p q) w := by
  intro W t hW
  have l1 : bp < w.heap.size := World.block_lt_of_cell? w _ hcp
  have l2 : bq < w.heap.size := World.block_lt_of_cell? w _ hcq
  have l3 : bk < w.heap.size := World.block_lt_of_cell? w _ hck
  have k1 := below_cell hW l1 hcp
  have k2 := below_cell hW l2 hcq
  have k3 := below_cell hW l3 hck
  have s1 := hp.below hW
  have s2 := hq.below hW
  have l1 : bp < W.heap.size := World.block_lt_of_cell? W _ k1
  have l2 : bq < W.heap.size := World.block_lt_of_cell? W _ k2
  have l3 : bk < W.heap.size := World.block_lt_of_cell? W _ k3
  clear hcp hcq hck hp hq hW
  obtain ⟨u, hu⟩ : ∃ u, inL p t = u := ⟨_, rfl⟩
  obtain ⟨v, hv⟩ : ∃ v, inL q t = v := ⟨_, rfl⟩
  have hop : opK k p q t = opB k u v := by unfold opK; rw [hu, hv]
  have r1 := fun X hX => rin_keep p t u hu ap cp W X s1 hpl hX
  have r2 := fun X hX => rin_keep q t v hv aq cq W X s2 hql hX
  have HOP := Lib.hid hop
  clear hop hu hv s1 s2 hpl hql
  obtain ⟨n, hn⟩ : ∃ n : Int, n = (k : Int) := ⟨_, rfl⟩
  rw [← hn] at k3
  have HN := Lib.hid hn
  clear hn
  show Calls Tryd.prog 15 #[.int .i64 t, .pointer (some ⟨bp, 0, none⟩), .pointer (some ⟨bq, 0, none⟩), .pointer (some ⟨bk, 0, none⟩)] W _
  go_enter Tryd.func15, Tryd.ntmps15
  go_wp2
  go_region_held3 (fun X => X.cell? ⟨bp, 0, none⟩ = some (.slice ap p.length cp) ∧ X.cell? ⟨bq, 0, none⟩ = some (.slice aq q.length cq) ∧ X.cell? ⟨bk, 0, none⟩ = some (.int .i64 n) ∧ Below W.heap.size W X ∧ bp < X.heap.size ∧ bq < X.heap.size ∧ bk < X.heap.size)
    (first | exact ⟨k1, k2, k3, (Below.refl _ _).drew, l1, l2, l3⟩ | exact hS2 | exact hS1)
    (first
      | (go_at_call 12; ((with_reducible refine (r1 _ (Below.refl _ _).drew).mono ?_); rintro e x1 ⟨rfl, b1⟩); have q1 : Below W.heap.size W x1 := (Below.refl _ _).drew.trans b1; have hS1 := keepC ⟨k1, k2, k3, Below.refl _ _, l1, l2, l3⟩ q1)
      | (go_at_call 12; ((with_reducible refine (r2 _ q1).mono ?_); rintro e x2 ⟨rfl, b2⟩); have hS2 := keepC hS1 b2))
  rename_i hS
  obtain ⟨_, _, k3, hB, _, _, l3⟩ := hS
  have HK : (k = 0 ∧ n = 0) ∨ (k = 1 ∧ n = 1) ∨ (k = 2 ∧ n = 2) := by have := HN.out; omega
  clear HN
  rcases HK with ⟨h1, rfl⟩ | ⟨h1, rfl⟩ | ⟨h1, rfl⟩
  all_goals
    have H1 := Lib.hid h1
    clear h1 hk
    cases u <;> cases v
    all_goals
      go_wp2
      go_ret
      exact ⟨ret_bool (by rw [HOP.out, H1.out]; rfl), hB⟩

/-! ### The plain law -/
theorem endsL_mem {l : List (Int × Int)} {p : Int × Int} (h : p ∈ l) : p.1 ∈ endsL l ∧ p.2 ∈ endsL l := by
  unfold endsL
  exact ⟨List.mem_flatMap.2 ⟨p, h, by simp⟩, List.mem_flatMap.2 ⟨p, h, by simp⟩⟩
theorem refOf_spec (l : List (Int × Int)) : Norm (refOf l) ∧ ∀ t, inL (refOf l) t = inL l t :=
  whereL_spec (inL l) (endsL l) (sortI (endsL l)) (ruled_inL l _ fun _ hp => endsL_mem hp) (sortI_sorted _) fun x => by rw [← mem_sortI]
theorem refOf_eq (l : List (Int × Int)) (h : rightL l) : refOf l = canon l :=
  (canon_eq l (refOf l) (right_pos h) (refOf_spec l).1 fun t => ((refOf_spec l).2 t).symm).symm
/-- The list of which a round's set is made. -/
def listK (k : Nat) (p q : List (Int × Int)) : List (Int × Int) := match k with
  | 0 => p ++ q
  | 1 => bothL p q
  | _ => minusL p q
theorem listK_right (k : Nat) (p q : List (Int × Int)) (hp : rightL p) (hq : rightL q) : rightL (listK k p q) := by
  match k with
  | 0 => exact fun x hx => (List.mem_append.1 hx).elim (hp x) (hq x)
  | 1 => exact bothL_right p q hp hq
  | k + 2 => exact minusL_right q p hp
theorem listK_in (k : Nat) (p q : List (Int × Int)) (hp : Norm p) (hq : rightL q) (t : Int) : inL (listK k p q) t = opK k p q t := by
  match k with
  | 0 => exact inL_append p q t
  | 1 => exact bothL_in p q t
  | k + 2 => exact (minusL_spec q p hp (right_pos hq)).2.2 t
theorem ruledK (k : Nat) (p q : List (Int × Int)) : Ruled (opK k p q) (endsLL [p, q]) := by
  have m1 : ∀ x ∈ p, x.1 ∈ endsLL [p, q] ∧ x.2 ∈ endsLL [p, q] := fun x hx => by
    simp only [endsLL, List.flatMap_cons, List.mem_append]
    exact ⟨Or.inl (endsL_mem hx).1, Or.inl (endsL_mem hx).2⟩
  have m2 : ∀ x ∈ q, x.1 ∈ endsLL [p, q] ∧ x.2 ∈ endsLL [p, q] := fun x hx => by
    simp only [endsLL, List.flatMap_cons, List.mem_append]
    exact ⟨Or.inr (Or.inl (endsL_mem hx).1), Or.inr (Or.inl (endsL_mem hx).2)⟩
  have r1 := ruled_inL p _ m1
  have r2 := ruled_inL q _ m2
  match k with
  | 0 => exact r1.or r2
  | 1 => exact r1.and r2.same
  | k + 2 => exact r1.and fun t t' ht h => by rw [r2.same t t' ht h]
/-- What a round asks for is what the program makes. -/
theorem want_eq (k : Nat) (p q : List (Int × Int)) (hp : Norm p) (rp : rightL p) (rq : rightL q) : whereL (opK k p q) (sortI (endsLL [p, q])) = canon (listK k p q) := by
  obtain ⟨h1, h2⟩ := whereL_spec (opK k p q) (endsLL [p, q]) (sortI (endsLL [p, q])) (ruledK k p q) (sortI_sorted _) fun x => by rw [← mem_sortI]
  exact (canon_eq _ _ (right_pos (listK_right k p q rp rq)) h1 fun t => by rw [h2, listK_in k p q hp rq]).symm
theorem lists2' (X : World) (n : Nat) (hn : X.heap.size = n) (a1 a2 : Option Addr) (l m : List (Int × Int)) (c1 c2 : Nat) (h1 : spansAt X a1 l) (h2 : spansAt X a2 m) :
    listsAt (X.alloc (.cells #[.slice a1 l.length c1, .slice a2 m.length c2] 22)) (some ⟨n, 0, none⟩) [l, m] := by
  have hb : Below X.heap.size X (X.alloc (.cells #[.slice a1 l.length c1, .slice a2 m.length c2] 22)) := (Below.refl _ _).alloc (Nat.le_refl _) _
  intro i k hk
  match i, hk with
  | 0, hk => simp at hk; subst hk; exact ⟨n, 0, a1, c1, rfl, cell2a hn, h1.below hb⟩
  | 1, hk => simp at hk; subst hk; exact ⟨n, 0, a2, c2, rfl, cell2b hn, h2.below hb⟩
theorem setOut_in {w : World} {l : List (Int × Int)} {x y : Value} {w' : World} (h : setOut w l x y w') (hl : (canon l).length ≤ 60) : ∃ b, x = .pointer (some ⟨b, 0, none⟩) ∧ y = .nilIface ∧ w.heap.size ≤ b ∧ setAt w' b (canon l) :=
  h.elim id fun h => absurd h.1 (by omega)
theorem setOut_out {w : World} {l : List (Int × Int)} {x y : Value} {w' : World} (h : setOut w l x y w') (hl : 60 < (canon l).length) : x = .pointer none ∧ y = .iface 23 (.int .i64 4) :=
  h.elim (fun ⟨_, _, _, _, h⟩ => by obtain ⟨_, _, _, _, _, h⟩ := h; omega) fun h => h.2

theorem refOf_len (l : List (Int × Int)) : (refOf l).length ≤ l.length * 2 := by
  have h := whS_len (inL l) (sortI (endsL l))
  rw [sortI_length, endsL_length] at h
  exact h
end Go.Proofs.YtmmkjokgjhcdlaaDoor
