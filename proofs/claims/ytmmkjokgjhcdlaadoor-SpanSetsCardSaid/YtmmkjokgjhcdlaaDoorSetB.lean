/- slices.Clone, slices.Concat at spans. -/
import Derived.Test.YtmmkjokgjhcdlaaDoorSpanD
import Derived.Test.YtmmkjokgjhcdlaaDoorRowB
import Derived.Laws.AppendOwnNone
import Derived.Lib.AppendZeros
namespace Go.Proofs.YtmmkjokgjhcdlaaDoor
open Go.RowKit Go.Shelf Go.Sort

theorem clone_any (ao : Option Addr) (l : List (Int × Int)) (cap : Nat) (w : World) (hl : spansAt w ao l) (hlen : l.length * 16 ≤ 140737488355328) :
    Calls Tryd.prog 25 #[.slice ao l.length cap] w fun e w' => ∃ v, e = .returned v ∧ w'.ownsRow w.heap.size 29 2 v l.length (flat l) ∧ Below w.heap.size w w' := by
  cases ao with
  | none =>
    have := spansAt_none hl
    subst this
    have hen := fun (w : World) (n c : Nat) => Lib.run_eql_slice_nil (P := Tryd.prog) w 22 29 none n c 0 0 Tryd.underlying22
    go_enter Tryd.func25, Tryd.ntmps25
    go_wp2
    go_ret
    exact ⟨_, rfl, World.ownsRow_nil _ _ _ _, Below.refl _ _⟩
  | some ad =>
    have hen := fun (w : World) (n c : Nat) => Lib.run_eql_slice_nil (P := Tryd.prog) w 22 29 (some ad) n c 0 0 Tryd.underlying22
    have hl1 := hl.below ((Below.refl w.heap.size w).alloc (Nat.le_refl _) (.cells #[] 29))
    go_enter Tryd.func25, Tryd.ntmps25
    go_wp2_with (at_builtin; refine appAll rfl _ _ rfl w.heap.size _ [] rfl (World.ownsRow_lit w #[] 0 (Nat.le_refl _) (by simp) (by simp)) (some ad) l cap rfl hl1 (fun h => by cases h) (by simpa using hlen) (by simp) w ((Below.refl _ _).alloc (Nat.le_refl _) _) ?_; intro v' w1 h1 h2 h3)
    go_ret
    exact ⟨_, rfl, h1, h2⟩


set_option maxRecDepth 100000 in
theorem grow_any (n : Nat) (w : World) (hlen : n * 16 ≤ 140737488355328) :
    Calls Tryd.prog 42 #[.slice none 0 0, .int .i64 n] w fun e w' => ∃ v, e = .returned v ∧ w'.ownsRow w.heap.size 29 2 v 0 (flat []) ∧ Below w.heap.size w w' := by
  obtain ⟨i0, hi, hz0, hz1, hz2⟩ := info_parts infoSpan
  by_cases h0 : 0 < n
  · have hz := Lib.run_append_nil_zeros (P := Tryd.prog) w 22 3 22 29 i0 (.agg #[.int .i64 0, .int .i64 0]) .i64 .i64 Tryd.underlying22 Tryd.underlying3 hi hz0 n h0 (by omega) (by omega) (by rw [hz2]; omega)
    have HZ := Lib.hid hz
    clear hz
    go_enter Tryd.func42, Tryd.ntmps42
    go_wp2_with (at_builtin; refine Lib.wpList_append_run _ rfl _ _ 22 3 rfl _ _ rfl rfl _ _ HZ.out ?_)
    go_ret
    have hge := grownCap_ge w n 0 29
    refine ⟨_, rfl, World.ownsRow_made w.drew _ _ (Nat.le_refl _) (grownCap_le_maxLen w n 0 29 (by unfold maxLen; omega)) ?_, (Below.refl _ _).drew.alloc (Nat.le_refl _) _⟩
    simp only [Array.size_append, size_zeroCells]
    show n * 2 + (_ - n) * 2 = _
    omega
  · obtain rfl : n = 0 := by omega
    go_enter Tryd.func42, Tryd.ntmps42
    go_wp2
    go_ret
    exact ⟨_, rfl, World.ownsRow_nil _ _ _ _, Below.refl _ _⟩

/-- A slice of slices of spans; nil ones have no capacity. -/
def listsAtN (w : World) (ao : Option Addr) (L : List (List (Int × Int))) : Prop :=
  ∀ i l, L[i]? = some l → ∃ b o a c, ao = some ⟨b, o, none⟩ ∧ w.cell? ⟨b, o + i, none⟩ = some (.slice a l.length c) ∧ spansAt w a l ∧ (a = none → c = 0)
theorem listsAtN_get {w : World} {ao : Option Addr} {L : List (List (Int × Int))} (h : listsAtN w ao L) {k : Nat} (hk : k < L.length) :
    ∃ b o l a c, Hid (L[k]? = some l) ∧ ao = some ⟨b, o, none⟩ ∧ w.cell? ⟨b, o + k, none⟩ = some (.slice a l.length c) ∧ spansAt w a l ∧ Hid (a = none → c = 0) := by
  obtain ⟨b, o, a, c, h1, h2, h3, h4⟩ := h k L[k] (by simp [hk])
  exact ⟨b, o, L[k], a, c, (by show L[k]? = _; simp [hk]), h1, h2, h3, h4⟩
theorem flatten_snoc {α : Type} (L : List (List α)) (k : Nat) (l : List α) (h : L[k]? = some l) : (L.take (k + 1)).flatten = (L.take k).flatten ++ l := by
  rw [List.take_add_one, h]; simp
theorem flatten_take_le {α : Type} (L : List (List α)) (k : Nat) : ((L.take k).flatten).length ≤ L.flatten.length := by
  have h : L.flatten = (L.take k).flatten ++ (L.drop k).flatten := by rw [← List.flatten_append, List.take_append_drop]
  rw [h, List.length_append]; omega

set_option maxRecDepth 100000 in
theorem concat_any (L : List (List (Int × Int))) (ao : Option Addr) (cap : Nat) (w : World) (hL : listsAtN w ao L) (hl0 : L.length ≤ maxLen) (hlen : L.flatten.length * 16 ≤ 140737488355328) :
    Calls Tryd.prog 34 #[.slice ao L.length cap] w fun e w' => ∃ v, e = .returned v ∧ w'.ownsRow w.heap.size 29 2 v L.flatten.length (flat L.flatten) ∧ Below w.heap.size w w' := by
  unfold maxLen at hl0
  go_enter Tryd.func34, Tryd.ntmps34
  go_wp2
  go_loop [3, 11] (fun s i => ∃ k n : Nat, k ≤ L.length ∧ i = .int .i64 k ∧ s = .int .i64 n ∧ Hid (n = (L.take k).flatten.length)) (fun _ i => L.length - (intOf i).toNat)
  case atStart => exact ⟨0, 0, by omega, rfl, rfl, rfl⟩
  case round =>
    obtain ⟨k, n, hk, rfl, rfl, hn⟩ := hrel
    by_cases hlt : k < L.length
    · obtain ⟨b, o, l, a, c, g1, rfl, c1, hs, hac⟩ := listsAtN_get hL hlt
      have hsn : n + l.length = (L.take (k + 1)).flatten.length := by rw [flatten_snoc L k l g1.out, List.length_append, hn.out]
      have hle : (n + l.length) * 16 ≤ 140737488355328 := by
        have : n + l.length ≤ L.flatten.length := by rw [hsn]; exact flatten_take_le L (k + 1)
        omega
      have HS := Lib.hid hsn
      clear hsn
      go_wp2
      refine ⟨⟨k + 1, n + l.length, by omega, by go_num, by go_num, HS⟩, by simp [intOf]; omega⟩
    · have he : n = L.flatten.length := by have h := hn.out; rw [List.take_of_length_le (by omega)] at h; exact h
      have hn16 : n * 16 ≤ 140737488355328 := by omega
      clear hn he
      go_wp2_with (go_at_call 42; refine (grow_any n _ hn16).mono ?_; rintro e w1 ⟨v1, rfl, ho1, hb1⟩)
      go_loopw [6, 27] (fun v i wr => ∃ k : Nat, k ≤ L.length ∧ i = .int .i64 k ∧ wr.ownsRow w.heap.size 29 2 v (L.take k).flatten.length (flat (L.take k).flatten) ∧ Below w.heap.size w wr) (fun _ i _ => L.length - (intOf i).toNat)
      case atStart => exact ⟨0, by omega, rfl, ho1, hb1⟩
      case round =>
        obtain ⟨k, hk, rfl, hown, hB⟩ := hrel
        by_cases hlt : k < L.length
        · obtain ⟨b, o, l, a, c, g1, rfl, c1, hs, hac⟩ := listsAtN_get hL hlt
          have hb := World.block_lt_of_cell? w _ c1
          have c1 := below_cell hB hb c1
          have hs := hs.below (hB.mono (Nat.le_refl _))
          have hsn := flatten_snoc L k l g1.out
          have hle : ((L.take k).flatten.length + l.length) * 16 ≤ 140737488355328 := by
            have := flatten_take_le L (k + 1)
            rw [hsn, List.length_append] at this
            omega
          have hsz := hB.size
          generalize (L.take k).flatten = F at *
          have HS := Lib.hid hsn
          clear hsn
          go_wp2_with (at_builtin; refine appAll rfl _ _ rfl w.heap.size _ F rfl hown a l c rfl hs hac.out hle hsz w hB ?_; intro v' w2 h1 h2 h3)
          refine ⟨⟨k + 1, by omega, by go_num, by rw [HS.out]; exact h1, h2⟩, by simp [intOf]; omega⟩
        · have he : L.take k = L := List.take_of_length_le (by omega)
          rw [he] at hown
          have HE := Lib.hid he
          clear he
          go_wp2
          go_ret
          exact ⟨_, rfl, hown, hB⟩
end Go.Proofs.YtmmkjokgjhcdlaaDoor
