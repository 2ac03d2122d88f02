/- Numerals joined with blanks: the document's Words. The condition: the library's table of powers of ten is as its own text lays it. -/
import Derived.Test.YtjgmgaleaihjpaaGreatDoorFcD
import Derived.Test.YtjgmgaleaihjpaaGreatDoorShelf
import Derived.Lib.AppendIntMem
import Derived.Lib.ItoaLen
namespace Go.Proofs.YtjgmgaleaihjpaaGreatDoor
open Go.RowKit

/-- The library's table of powers of ten. -/
def PowTab (w : World) : Prop := Lib.TabIs Tryz.prog w "internal/strconv.uint64pow10" .u64 Lib.pow10Tab
theorem PowTab.below {w w' : World} (h : PowTab w) (hb : Below w.heap.size w w') : PowTab w' := Lib.tabBelow_of_tabIs h w' hb
theorem PowTab.drew {w : World} (h : PowTab w) : PowTab w.drew := h.below ((Below.refl _ _).drew)

def i64B (n : Int) : Prop := -9223372036854775808 ≤ n ∧ n ≤ 9223372036854775807
theorem itoa_any (n : Int) (hn : i64B n) (w : World) (ht : PowTab w) : Calls Tryz.prog 32 #[.int .i64 n] w fun e w' => e = .returned (.string ⟨(Lib.itoa n).toArray⟩) ∧ Below w.heap.size w w' :=
  (Tryz.strconv_Itoa n hn.1 hn.2 w ht).mono fun _ _ ⟨h1, k, os, h2⟩ => ⟨h1, by rw [h2]; exact Lib.below_grow _ w (Nat.le_refl _) k os⟩

/-- A slice of strings. -/
def textsAt (w : World) (ao : Option Addr) (l : List ByteArray) : Prop := ∀ i x, l[i]? = some x → ∃ b o, ao = some ⟨b, o, none⟩ ∧ w.cell? ⟨b, o + i, none⟩ = some (.string x)
theorem textsAt.below {w w' : World} {ao : Option Addr} {l : List ByteArray} (h : textsAt w ao l) (hb : Below w.heap.size w w') : textsAt w' ao l :=
  fun i x hi => let ⟨b, o, h1, h2⟩ := h i x hi
    ⟨b, o, h1, (hb.cell (p := ⟨b, _, none⟩) (World.block_lt_of_cell? w _ h2)).trans h2⟩
theorem infoStr : (Tryz.prog.info? 9).map (fun i => (i.zero, i.size, i.bytes)) = some (some (.string ⟨#[]⟩), 1, 16) := by kernel_rfl
theorem ownsRow_texts {w : World} {base n : Nat} {v : Value} {l : List ByteArray} {e : TypeId} (h : w.ownsRow base e 1 v n (l.map Value.string)) :
    ∃ ao cap, v = .slice ao l.length cap ∧ textsAt w ao l ∧ l.length ≤ cap ∧ (ao = none → l = []) := by
  have hn : n = l.length := by have := h.1; simp at this; omega
  subst hn
  have h0 := h
  rcases h.2 with ⟨rfl, hn⟩ | ⟨g, cap, cur, rfl, hbg, hh, hnc, hcm, hcs, htk⟩
  · have hl : l = [] := List.eq_nil_of_length_eq_zero hn
    subst hl
    exact ⟨none, 0, rfl, fun i x hx => by simp at hx, Nat.le_refl _, fun _ => rfl⟩
  · refine ⟨some ⟨g, 0, none⟩, cap, rfl, fun i x hx => ⟨g, 0, rfl, ?_⟩, hnc, fun h => by cases h⟩
    have hi := (List.getElem?_eq_some_iff.1 hx).1
    have := h0.cellAt i (by omega)
    rw [Nat.zero_add, this]
    simp [hx]
/-- strings.Join, of a slice of strings. -/
theorem join_any (ao : Option Addr) (c : Nat) (xs : List ByteArray) (sep : ByteArray) (w : World) (hx : textsAt w ao xs) (hc : xs.length ≤ c) (hn : xs.length ≤ 140737488355328) (hlen : (Lib.join (xs.map (·.data.toList)) sep.data.toList).length ≤ 140737488355328) :
    Calls Tryz.prog 34 #[.slice ao xs.length c, .string sep] w fun e w' => e = .returned (.string ⟨(Lib.join (xs.map (·.data.toList)) sep.data.toList).toArray⟩) ∧ Below w.heap.size w w' := by
  cases xs with
  | nil => exact (Tryz.strings_Join_none ao c sep w).mono fun _ _ ⟨h1, h2⟩ => ⟨h1, by rw [h2]; exact Below.refl _ _⟩
  | cons x r =>
    obtain ⟨b, o, rfl, h0⟩ := hx 0 x rfl
    exact Tryz.strings_Join b o c (x :: r) sep w (fun j y hj => by obtain ⟨b', o', h1, h2⟩ := hx j y hj; cases h1; exact h2) (World.block_lt_of_cell? w _ h0) hn hc hlen

/-- One string more. -/
theorem appText {W : World} {ops : Array Oper} {rest : List Oper} {o : Oper} {a : Act} {Q : Exit → Act → World → Prop} (hgd : o.guard = none) (s x : Operand)
    (ho : o.op = .call { callee := .builtin .append, args := #[s, x], argTypes := #[33, 33] }) (base : Nat) (v : Value) (l : List ByteArray) (hs : a.eval s = v) (hown : W.ownsRow base 9 1 v l.length (l.map Value.string))
    (b : Nat) (t : ByteArray) (hx : a.eval x = .slice (some ⟨b, 0, none⟩) 1 1) (hc1 : W.cell? ⟨b, 0, none⟩ = some (.string t))
    (hbytes : (l.length + 1) * 16 ≤ 140737488355328) (hbase : base ≤ W.heap.size) (w0 : World) (hB : Below base w0 W)
    (h : ∀ v' w', w'.ownsRow base 9 1 v' (l ++ [t]).length ((l ++ [t]).map Value.string) → Below base w0 w' → W.heap.size ≤ w'.heap.size → W.grownBy w' v.ownBlock → wpList Tryz.prog ops Q rest (a.put o.dst v') w') : wpList Tryz.prog ops Q (o :: rest) a W := by
  refine app1 hgd s x _ ho base 9 Tryz.underlying33 infoStr rfl (by decide) (by decide) v l.length (l.map Value.string) hs hown b [.string t] hx rfl (fun u hu => ?_) (fun j u hu => ?_) hbytes hbase w0 hB fun v' w' h2 h3 h4 h5 h6 => h v' w' ?_ h3 h4 h6
  · simp at hu; subst hu; rfl
  · match j, hu with
    | 0, hu => simp at hu; subst hu; exact hc1
  · rw [List.map_append, List.length_append]; exact h2

/-! ### Words -/
def numsB (l : List Int) : List ByteArray := l.map fun n => ⟨(Lib.itoa n).toArray⟩
theorem numsB_data (l : List Int) : (numsB l).map (·.data.toList) = l.map Lib.itoa := by simp [numsB]
theorem numsB_length (l : List Int) : (numsB l).length = l.length := by simp [numsB]
theorem numsB_snoc (l : List Int) (k : Nat) (x : Int) (h : l[k]? = some x) : numsB (l.take (k + 1)) = numsB (l.take k) ++ [⟨(Lib.itoa x).toArray⟩] := by
  rw [List.take_add_one, h]; simp [numsB]
theorem join_len (sep : List UInt8) (m : Nat) : ∀ l : List (List UInt8), (∀ p ∈ l, p.length ≤ m) → (Lib.join l sep).length ≤ l.length * (m + sep.length)
  | [], _ => by simp [Lib.join, List.intercalate]
  | [p], h => by
    have := h p (by simp)
    simp [Lib.join, List.intercalate, List.intersperse]; omega
  | p :: q :: r, h => by
    have h1 := h p (by simp)
    have h2 := join_len sep m (q :: r) (fun x hx => h x (List.mem_cons_of_mem _ hx))
    have e : Lib.join (p :: q :: r) sep = p ++ (sep ++ Lib.join (q :: r) sep) := by simp [Lib.join, List.intercalate, List.intersperse]
    rw [e]
    simp only [List.length_append, List.length_cons, Nat.add_mul, Nat.one_mul] at h2 ⊢
    omega
def wordsT (l : List Int) : List UInt8 := Lib.join (l.map Lib.itoa) [32]
theorem wordsT_len (l : List Int) (h : ∀ x ∈ l, i64B x) : (wordsT l).length ≤ l.length * 22 := by
  have := join_len [32] 21 (l.map Lib.itoa) (fun p hp => by
    obtain ⟨x, hx, rfl⟩ := List.mem_map.1 hp
    exact Lib.itoa_length_le x (h x hx).1 (h x hx).2)
  simpa [wordsT] using this

set_option maxHeartbeats 1000000 in
theorem words_any (ao : Option Addr) (c : Nat) (l : List Int) (w : World) (hl : intsAt w ao l) (hwf : ∀ x ∈ l, i64B x) (hn : l.length ≤ 4294967296) (ht : PowTab w) :
    Calls Tryz.prog 24 #[.slice ao l.length c] w fun e w' => e = .returned (.string ⟨(wordsT l).toArray⟩) ∧ Below w.heap.size w w' := by
  have HT := Lib.hid ht
  have HL := Lib.hid hl
  have HF := Lib.hid hwf
  clear ht hl hwf
  go_enter Tryz.func24, Tryz.ntmps24
  go_wp2
  go_loopw [3, 8] (fun v i wr => ∃ k : Nat, k ≤ l.length ∧ i = .int .i64 k ∧ wr.ownsRow w.heap.size 9 1 v (numsB (l.take k)).length ((numsB (l.take k)).map Value.string) ∧ Below w.heap.size w wr) (fun _ i _ => l.length - (intOf i).toNat)
  case atStart => exact ⟨0, by omega, rfl, World.ownsRow_nil _ _ _ _, Below.refl _ _⟩
  case round =>
    obtain ⟨k, hk, rfl, hown, hB⟩ := hrel
    by_cases hlt : k < l.length
    · obtain ⟨b, o, x, g1, rfl, c1⟩ := intsAt_get HL.out hlt
      have hb : b < w.heap.size := World.block_lt_of_cell? w _ c1
      have c1 := (hB.cell (p := ⟨b, o + k, none⟩) hb).trans c1
      have hx : i64B x := HF.out x (List.mem_of_getElem? g1.out)
      have hsn := Lib.hid (numsB_snoc l k x g1.out)
      have hle : (numsB (l.take k)).length ≤ k := by rw [numsB_length]; exact List.length_take_le _ _
      generalize hM : numsB (l.take k) = M at *
      have HM := Lib.hid hM
      clear hM
      have hT1 := HT.out.below hB
      have HX := Lib.hid hx
      have HB := Lib.hid hB
      have HO := Lib.hid hown
      have hsz := hB.size
      clear hx hB hown
      go_wp2_with (first | (go_at_call 32; refine (itoa_any x HX.out _ hT1).mono ?_; rintro e w1 ⟨rfl, hb1⟩; have HB1 := Lib.hid (below_trans HB.out HB.out.size hb1); have HO1 := Lib.hid (ownsRow_below HO.out hb1); have hs1 := hb1.size; clear hb1) | (at_builtin; refine appText rfl _ _ rfl w.heap.size _ M rfl (HO1.out.alloc _) w1.heap.size ⟨(Lib.itoa x).toArray⟩ rfl (by simp) (by omega) (by simp; omega) w (HB1.out.alloc HB1.out.size _) ?_; intro v' w2 hown2 hB2 hs2 hg2))
      exact ⟨⟨k + 1, by omega, by go_num, by rw [hsn.out]; exact hown2, hB2⟩, by simp [intOf]; omega⟩
    · have he : l.take k = l := List.take_of_length_le (by omega)
      rw [he] at hown
      clear he
      obtain ⟨ao', cap, rfl, ht1, hcap, _⟩ := ownsRow_texts hown
      have hJ := join_any ao' cap (numsB l) ⟨#[32]⟩ wr ht1 hcap (by rw [numsB_length]; omega) (by
        have := wordsT_len l HF.out
        rw [numsB_data]; unfold wordsT at this; simp only at this ⊢; omega)
      rw [numsB_data] at hJ
      have HJ := Lib.hid hJ
      have HB := Lib.hid hB
      clear hJ hown ht1 hB
      go_wp2_with (go_at_call 34; refine HJ.out.mono ?_; rintro e w1 ⟨rfl, hb1⟩)
      go_ret
      exact ⟨rfl, below_trans HB.out HB.out.size hb1⟩
end Go.Proofs.YtjgmgaleaihjpaaGreatDoor
