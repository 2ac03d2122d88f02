/- What fact.Read calls of the library: strings.SplitSeq and strings.Split at a sign, strconv.Atoi at whatever text. The conditions: the library's variables that are named hold errors, and a number. -/
import Derived.Test.YtjgmgaleaihjpaaGreatDoorFcH
import Derived.Test.YtjgmgaleaihjpaaGreatDoorSplI
namespace Go.Proofs.YtjgmgaleaihjpaaGreatDoor
open Go.RowKit

/-- The library's three variables that reading wants. -/
structure NumVars (w : World) : Prop where
  syn : ∃ t p, w.cell? ⟨0, 0, none⟩ = some (.iface t p)
  rng : ∃ t p, w.cell? ⟨1, 0, none⟩ = some (.iface t p)
  len : ∃ m, w.cell? ⟨2, 0, none⟩ = some (.int .i64 m)
theorem NumVars.below {w w' : World} (h : NumVars w) (hb : Below w.heap.size w w') : NumVars w' := by
  obtain ⟨⟨t, p, h1⟩, ⟨t', p', h2⟩, ⟨m, h3⟩⟩ := h
  exact ⟨⟨t, p, below_cell hb (World.block_lt_of_cell? w _ h1) h1⟩, ⟨t', p', below_cell hb (World.block_lt_of_cell? w _ h2) h2⟩, ⟨m, below_cell hb (World.block_lt_of_cell? w _ h3) h3⟩⟩

theorem atoi_any (s : ByteArray) (w : World) (hs : s.size ≤ 100000) (hv : NumVars w) :
    Calls Tryz.prog 14 #[.string s] w fun e w' => (∃ v err, e = .returned (.tuple #[.int .i64 v, err]) ∧ ((num? s.data.toList = some v ∧ err = .nilIface) ∨ (num? s.data.toList = none ∧ ∃ t p, err = .iface t p))) ∧ Below w.heap.size w w' := by
  obtain ⟨⟨t, p, h1⟩, ⟨t', p', h2⟩, _⟩ := hv
  cases h : Lib.atoiAll s.data.toList
  · rename_i v
    exact (Tryz.strconv_Atoi_ok s (by omega) v h w).mono fun e w' ⟨he, hw⟩ => ⟨⟨v, _, he, .inl ⟨by unfold num?; rw [h], rfl⟩⟩, by
      rcases hw with rfl | ⟨t, rfl⟩
      · exact Below.refl _ _
      · exact Lib.bytesWorld_below _ _ _⟩
  · exact (Tryz.strconv_Atoi_syntax s (by omega) h _ w h1 (.inr ⟨_, _, rfl⟩)).mono fun e w' ⟨N, he, _, _, hb⟩ => ⟨⟨_, _, he, .inr ⟨by unfold num?; rw [h], _, _, rfl⟩⟩, hb⟩
  · exact (Tryz.strconv_Atoi_range s (by omega) h _ w h2 (.inr ⟨_, _, rfl⟩)).mono fun e w' ⟨N, he, _, _, hb⟩ => ⟨⟨_, _, he, .inr ⟨by unfold num?; rw [h], _, _, rfl⟩⟩, hb⟩

theorem splitL (c : UInt8) (s : ByteArray) : ∃ l : List ByteArray, Lib.splitB ⟨#[c]⟩ 0 (Lib.countB s ⟨#[c]⟩) s = l ∧ l.map (·.data.toList) = cutC c s.data.toList := ⟨_, rfl, splitB_eq c s⟩
theorem split_any (c : UInt8) (s : ByteArray) (w : World) (hs : s.size ≤ 100000) (hv : NumVars w) :
    Calls Tryz.prog 8 #[.string s, .string ⟨#[c]⟩] w fun e w' => ∃ l : List ByteArray, l.map (·.data.toList) = cutC c s.data.toList ∧ e = .returned (.slice (some ⟨w.heap.size, 0, none⟩) l.length l.length) ∧ w' = w.alloc (.cells (l.map Value.string).toArray 9) := by
  obtain ⟨_, _, ⟨m, h3⟩⟩ := hv
  refine (Tryz.strings_Split s ⟨#[c]⟩ m w (by omega) h3 (Nat.le_refl 1)).mono fun e w' ⟨he, hw⟩ => ⟨_, splitB_eq c s, ?_, hw⟩
  rw [he]
  have : (Lib.splitB ⟨#[c]⟩ 0 (Lib.countB s ⟨#[c]⟩) s).length = Lib.countB s ⟨#[c]⟩ + 1 := Lib.splitB_all ⟨#[c]⟩ (Nat.le_refl 1) 0 _ s rfl
  rw [this]
theorem splitSeq_any (s : ByteArray) (c : UInt8) (w : World) : Calls Tryz.prog 13 #[.string s, .string ⟨#[c]⟩] w fun e w' =>
    e = .returned (.func (.func 44) #[] #[.pointer (some ⟨w.heap.size + 1, 0, none⟩), .pointer (some ⟨w.heap.size, 0, none⟩), .pointer (some ⟨w.heap.size + 2, 0, none⟩)]) ∧
      w' = ((w.alloc (.cells #[.string s] 9)).alloc (.cells #[.string ⟨#[c]⟩] 9)).alloc (.cells #[.int .i64 0] 3) := by
  have h : Calls Tryz.prog 26 #[.string s, .string ⟨#[c]⟩, .int .i64 0] w fun e w' =>
    e = .returned (.func (.func 44) #[] #[.pointer (some ⟨w.heap.size + 1, 0, none⟩), .pointer (some ⟨w.heap.size, 0, none⟩), .pointer (some ⟨w.heap.size + 2, 0, none⟩)]) ∧
      w' = ((w.alloc (.cells #[.string s] 9)).alloc (.cells #[.string ⟨#[c]⟩] 9)).alloc (.cells #[.int .i64 0] 3) := by
    go_enter Tryz.func26, Tryz.ntmps26
    go_wp2
    go_ret
    exact ⟨rfl, rfl⟩
  go_enter Tryz.func13, Tryz.ntmps13
  go_wp2_with (go_at_call 26; refine h.mono ?_; rintro e w' ⟨rfl, rfl⟩)
  go_ret
  exact ⟨rfl, rfl⟩
end Go.Proofs.YtjgmgaleaihjpaaGreatDoor
