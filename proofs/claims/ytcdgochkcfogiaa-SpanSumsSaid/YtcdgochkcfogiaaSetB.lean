/- slices.Clone, slices.Concat at spans. -/
import Derived.Test.YtcdgochkcfogiaaSpanD
import Derived.Laws.AppendOwnNone
import Derived.Lib.AppendZeros
namespace Go.Proofs.Ytcdgochkcfogiaa
open Go.RowKit Go.Shelf Go.Sort

theorem flat_inv (l : List (Int × Int)) (j : Nat) (u : Value) (h : (flat l)[j]? = some u) : ∃ i x y, l[i]? = some (x, y) ∧ ((j = i * 2 ∧ u = .int .i64 x) ∨ (j = i * 2 + 1 ∧ u = .int .i64 y)) := by
  induction l generalizing j with
  | nil => simp [flat] at h
  | cons p l ih =>
    obtain ⟨x, y⟩ := p
    match j, h with
    | 0, h => simp [flat] at h; exact ⟨0, x, y, rfl, .inl ⟨rfl, h.symm⟩⟩
    | 1, h => simp [flat] at h; exact ⟨0, x, y, rfl, .inr ⟨rfl, h.symm⟩⟩
    | j + 2, h =>
      obtain ⟨i, x', y', h1, h2⟩ := ih j (by simpa [flat] using h)
      refine ⟨i + 1, x', y', by simpa using h1, ?_⟩
      rcases h2 with ⟨h2, h3⟩ | ⟨h2, h3⟩
      · exact .inl ⟨by omega, h3⟩
      · exact .inr ⟨by omega, h3⟩
theorem flat_one (l : List (Int × Int)) : ∀ u ∈ flat l, u.oneCell' = true := by
  intro u hu
  simp [flat] at hu
  obtain ⟨a, b, _, rfl | rfl⟩ := hu <;> rfl
/-- The cells behind a slice's address, as the append law asks them. -/
theorem spansAt_news {w : World} {ad : Addr} {l : List (Int × Int)} (h : spansAt w (some ad) l) : ∀ j u, (flat l)[j]? = some u → w.cell? (ad.add j) = some u := by
  intro j u hu
  obtain ⟨i, x, y, h1, h2⟩ := flat_inv l j u hu
  obtain ⟨b, o, he, c1, c2⟩ := h i x y h1
  cases he
  have ha : ∀ k, (⟨b, o, none⟩ : Addr).add k = ⟨b, o + k, none⟩ := fun k => by unfold Addr.add; split <;> simp_all
  rw [ha]
  rcases h2 with ⟨rfl, rfl⟩ | ⟨rfl, rfl⟩
  · exact c1
  · rw [← Nat.add_assoc]; exact c2

theorem spansAt_none {w : World} {l : List (Int × Int)} (h : spansAt w none l) : l = [] := by
  cases l with
  | nil => rfl
  | cons p l => obtain ⟨b, o, he, _⟩ := h 0 p.1 p.2 rfl; cases he

/-- A whole slice of spans more, behind an own one. -/
theorem appAll {W : World} {ops : Array Oper} {rest : List Oper} {o : Oper} {a : Act} {Q : Exit → Act → World → Prop} (hgd : o.guard = none) (s x : Operand)
    (ho : o.op = .call { callee := .builtin .append, args := #[s, x], argTypes := #[26, 26] }) (base : Nat) (v : Value) (l : List (Int × Int)) (hs : a.eval s = v) (hown : W.ownsRow base 23 2 v l.length (flat l))
    (ao : Option Addr) (m : List (Int × Int)) (cap : Nat) (hx : a.eval x = .slice ao m.length cap) (hm : spansAt W ao m) (hn : ao = none → cap = 0)
    (hbytes : (l.length + m.length) * 16 ≤ 140737488355328) (hbase : base ≤ W.heap.size) (w0 : World) (hB : Below base w0 W)
    (h : ∀ v' w', w'.ownsRow base 23 2 v' (l ++ m).length (flat (l ++ m)) → Below base w0 w' → W.heap.size ≤ w'.heap.size → wpList Try.prog ops Q rest (a.put o.dst v') w') : wpList Try.prog ops Q (o :: rest) a W := by
  obtain ⟨i0, hi, hz0, hz1, hz2⟩ := info_parts infoSpan
  cases ao with
  | none =>
    have := spansAt_none hm
    subst this
    have := hn rfl
    subst this
    refine wpList_append_own_none hgd s x 26 ho base 23 i0 2 Try.underlying26 hi v l.length (flat l) hs hown hx ?_
    exact h v W (by simpa using hown) hB (Nat.le_refl _)
  | some ad =>
    refine wpList_append_own _ hgd s x 26 ho base 23 i0 (.agg #[.int .i64 0, .int .i64 0]) 2 16 Try.underlying26 hi hz0 hz1 hz2 rfl (by decide) v l.length (flat l) hs hown ad m.length cap (flat m) hx (flat_length m) (spansAt_news hm) (flat_one m) (by unfold maxLen; omega) hbytes hbase ?_
    intro v' w' h2 h3 _
    exact h v' w' (by rw [List.length_append, flat_append]; exact h2) (hB.grown h3 hbase (fun k hk => (hown.lt k hk).1)) h3.size

theorem clone_any (ao : Option Addr) (l : List (Int × Int)) (cap : Nat) (w : World) (hl : spansAt w ao l) (hlen : l.length * 16 ≤ 140737488355328) :
    Calls Try.prog 37 #[.slice ao l.length cap] w fun e w' => ∃ v, e = .returned v ∧ w'.ownsRow w.heap.size 23 2 v l.length (flat l) ∧ Below w.heap.size w w' := by
  cases ao with
  | none =>
    have := spansAt_none hl
    subst this
    have hen := fun (w : World) (n c : Nat) => Lib.run_eql_slice_nil (P := Try.prog) w 26 23 none n c 0 0 Try.underlying26
    go_enter Try.func37, Try.ntmps37
    go_wp2
    go_ret
    exact ⟨_, rfl, World.ownsRow_nil _ _ _ _, Below.refl _ _⟩
  | some ad =>
    have hen := fun (w : World) (n c : Nat) => Lib.run_eql_slice_nil (P := Try.prog) w 26 23 (some ad) n c 0 0 Try.underlying26
    have hl1 := hl.below ((Below.refl w.heap.size w).alloc (Nat.le_refl _) (.cells #[] 23))
    go_enter Try.func37, Try.ntmps37
    go_wp2_with (at_builtin; refine appAll rfl _ _ rfl w.heap.size _ [] rfl (World.ownsRow_lit w #[] 0 (Nat.le_refl _) (by simp) (by simp)) (some ad) l cap rfl hl1 (fun h => by cases h) (by simpa using hlen) (by simp) w ((Below.refl _ _).alloc (Nat.le_refl _) _) ?_; intro v' w1 h1 h2 h3)
    go_ret
    exact ⟨_, rfl, h1, h2⟩


set_option maxRecDepth 100000 in
theorem grow_any (n : Nat) (w : World) (hlen : n * 16 ≤ 140737488355328) :
    Calls Try.prog 48 #[.slice none 0 0, .int .i64 n] w fun e w' => ∃ v, e = .returned v ∧ w'.ownsRow w.heap.size 23 2 v 0 (flat []) ∧ Below w.heap.size w w' := by
  obtain ⟨i0, hi, hz0, hz1, hz2⟩ := info_parts infoSpan
  by_cases h0 : 0 < n
  · have hz := Lib.run_append_nil_zeros (P := Try.prog) w 26 3 26 23 i0 (.agg #[.int .i64 0, .int .i64 0]) .i64 .i64 Try.underlying26 Try.underlying3 hi hz0 n h0 (by omega) (by omega) (by rw [hz2]; omega)
    have HZ := Lib.hid hz
    clear hz
    go_enter Try.func48, Try.ntmps48
    go_wp2_with (at_builtin; refine Lib.wpList_append_run _ rfl _ _ 26 3 rfl _ _ rfl rfl _ _ HZ.out ?_)
    go_ret
    have hge := grownCap_ge w n 0 23
    refine ⟨_, rfl, World.ownsRow_made w.drew _ _ (Nat.le_refl _) (grownCap_le_maxLen w n 0 23 (by unfold maxLen; omega)) ?_, (Below.refl _ _).drew.alloc (Nat.le_refl _) _⟩
    simp only [Array.size_append, size_zeroCells]
    show n * 2 + (_ - n) * 2 = _
    omega
  · obtain rfl : n = 0 := by omega
    go_enter Try.func48, Try.ntmps48
    go_wp2
    go_ret
    exact ⟨_, rfl, World.ownsRow_nil _ _ _ _, Below.refl _ _⟩

/-- A slice of slices of spans; nil ones have no capacity. -/
def listsAtN (w : World) (ao : Option Addr) (L : List (List (Int × Int))) : Prop :=
  ∀ i l, L[i]? = some l → ∃ b o a c, ao = some ⟨b, o, none⟩ ∧ w.cell? ⟨b, o + i, none⟩ = some (.slice a l.length c) ∧ spansAt w a l ∧ (a = none → c = 0)
theorem listsAtN_get {w : World} {ao : Option Addr} {L : List (List (Int × Int))} (h : listsAtN w ao L) {k : Nat} (hk : k < L.length) :
    ∃ b o l a c, Hid (L[k]? = some l) ∧ ao = some ⟨b, o, none⟩ ∧ w.cell? ⟨b, o + k, none⟩ = some (.slice a l.length c) ∧ spansAt w a l ∧ Hid (a = none → c = 0) := by
  obtain ⟨b, o, a, c, h1, h2, h3, h4⟩ := h k L[k] (by simp [hk])
  exact ⟨b, o, L[k], a, c, (by show L[k]? = _; simp [hk]), h1, h2, h3, h4⟩
theorem flatten_snoc {α : Type} (L : List (List α)) (k : Nat) (l : List α) (h : L[k]? = some l) : (L.take (k + 1)).flatten = (L.take k).flatten ++ l := by
  rw [List.take_add_one, h]; simp
theorem flatten_take_le {α : Type} (L : List (List α)) (k : Nat) : ((L.take k).flatten).length ≤ L.flatten.length := by
  have h : L.flatten = (L.take k).flatten ++ (L.drop k).flatten := by rw [← List.flatten_append, List.take_append_drop]
  rw [h, List.length_append]; omega

set_option maxRecDepth 100000 in
theorem concat_any (L : List (List (Int × Int))) (ao : Option Addr) (cap : Nat) (w : World) (hL : listsAtN w ao L) (hl0 : L.length ≤ maxLen) (hlen : L.flatten.length * 16 ≤ 140737488355328) :
    Calls Try.prog 36 #[.slice ao L.length cap] w fun e w' => ∃ v, e = .returned v ∧ w'.ownsRow w.heap.size 23 2 v L.flatten.length (flat L.flatten) ∧ Below w.heap.size w w' := by
  unfold maxLen at hl0
  go_enter Try.func36, Try.ntmps36
  go_wp2
  go_loop [3, 11] (fun s i => ∃ k n : Nat, k ≤ L.length ∧ i = .int .i64 k ∧ s = .int .i64 n ∧ Hid (n = (L.take k).flatten.length)) (fun _ i => L.length - (intOf i).toNat)
  case atStart => exact ⟨0, 0, by omega, rfl, rfl, rfl⟩
  case round =>
    obtain ⟨k, n, hk, rfl, rfl, hn⟩ := hrel
    by_cases hlt : k < L.length
    · obtain ⟨b, o, l, a, c, g1, rfl, c1, hs, hac⟩ := listsAtN_get hL hlt
      have hsn : n + l.length = (L.take (k + 1)).flatten.length := by rw [flatten_snoc L k l g1.out, List.length_append, hn.out]
      have hle : (n + l.length) * 16 ≤ 140737488355328 := by
        have : n + l.length ≤ L.flatten.length := by rw [hsn]; exact flatten_take_le L (k + 1)
        omega
      have HS := Lib.hid hsn
      clear hsn
      go_wp2
      refine ⟨⟨k + 1, n + l.length, by omega, by go_num, by go_num, HS⟩, by simp [intOf]; omega⟩
    · have he : n = L.flatten.length := by have h := hn.out; rw [List.take_of_length_le (by omega)] at h; exact h
      have hn16 : n * 16 ≤ 140737488355328 := by omega
      clear hn he
      go_wp2_with (go_at_call 48; refine (grow_any n _ hn16).mono ?_; rintro e w1 ⟨v1, rfl, ho1, hb1⟩)
      go_loopw [6, 27] (fun v i wr => ∃ k : Nat, k ≤ L.length ∧ i = .int .i64 k ∧ wr.ownsRow w.heap.size 23 2 v (L.take k).flatten.length (flat (L.take k).flatten) ∧ Below w.heap.size w wr) (fun _ i _ => L.length - (intOf i).toNat)
      case atStart => exact ⟨0, by omega, rfl, ho1, hb1⟩
      case round =>
        obtain ⟨k, hk, rfl, hown, hB⟩ := hrel
        by_cases hlt : k < L.length
        · obtain ⟨b, o, l, a, c, g1, rfl, c1, hs, hac⟩ := listsAtN_get hL hlt
          have hb := World.block_lt_of_cell? w _ c1
          have c1 := below_cell hB hb c1
          have hs := hs.below (hB.mono (Nat.le_refl _))
          have hsn := flatten_snoc L k l g1.out
          have hle : ((L.take k).flatten.length + l.length) * 16 ≤ 140737488355328 := by
            have := flatten_take_le L (k + 1)
            rw [hsn, List.length_append] at this
            omega
          have hsz := hB.size
          generalize (L.take k).flatten = F at *
          have HS := Lib.hid hsn
          clear hsn
          go_wp2_with (at_builtin; refine appAll rfl _ _ rfl w.heap.size _ F rfl hown a l c rfl hs hac.out hle hsz w hB ?_; intro v' w2 h1 h2 h3)
          refine ⟨⟨k + 1, by omega, by go_num, by rw [HS.out]; exact h1, h2⟩, by simp [intOf]; omega⟩
        · have he : L.take k = L := List.take_of_length_le (by omega)
          rw [he] at hown
          have HE := Lib.hid he
          clear he
          go_wp2
          go_ret
          exact ⟨_, rfl, hown, hB⟩
end Go.Proofs.Ytcdgochkcfogiaa
