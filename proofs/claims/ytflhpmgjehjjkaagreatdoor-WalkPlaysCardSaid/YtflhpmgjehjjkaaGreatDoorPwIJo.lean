/- What was said of a time (Value). -/
import Derived.Laws.EntriesVeiled
import Derived.LoopTactic
import Derived.Test.YtflhpmgjehjjkaaGreatDoorFcKJo
import Derived.Test.YtflhpmgjehjjkaaGreatDoorErrCJo
import Derived.Test.YtflhpmgjehjjkaaGreatDoorBesideJo
import Derived.Test.YtflhpmgjehjjkaaGreatDoorPwEJo
namespace Go.Proofs.YtflhpmgjehjjkaaGreatDoor
open Go.RowKit

theorem textsAt_new (V : World) (l : List ByteArray) {cs : Array Value} {t : TypeId} (h : cs.toList = l.map Value.string) : textsAt (V.alloc (.cells cs t)) (some ⟨V.heap.size, 0, none⟩) l := by
  intro i x hi
  refine ⟨V.heap.size, 0, rfl, ?_⟩
  rw [Nat.zero_add]
  have : cs[i]? = some (.string x) := by rw [← Array.getElem?_toList, h]; simp [hi]
  simp [this]
def bytesL (l : List (List UInt8)) : List ByteArray := l.map fun p => ⟨p.toArray⟩
theorem bytesL_data (l : List (List UInt8)) : (bytesL l).map (·.data.toList) = l := by
  unfold bytesL; rw [List.map_map]; show List.map (fun p => p.toArray.toList) l = l; simp
theorem bytesL_length (l : List (List UInt8)) : (bytesL l).length = l.length := by simp [bytesL]
def opBs (o : OpP) : List ByteArray := bytesL (opWs o)

/-! ### The first that may not be -/
/-- A change of words that are not too long. -/
abbrev OpS := {o : OpP // o.key.word.size ≤ 100000 ∧ o.value.size ≤ 100000}
instance : Inhabited OpS := ⟨⟨⟨⟨0, 0, ByteArray.empty, 0⟩, 0, 0, ByteArray.empty⟩, by decide⟩⟩
theorem idx_eq {α : Type} (p : α → Bool) (x : α) : ∀ (zs : List α) (i : Nat), Lib.idxByFrom (fun _ y => p y) x zs i = if zs.any p then ((i + zs.findIdx p : Nat) : Int) else -1
  | [], i => by simp [Lib.idxByFrom]
  | z :: zs, i => by
    rw [Lib.idxByFrom]
    cases h : p z
    · rw [if_neg (by simp), idx_eq p x zs (i + 1)]
      simp only [List.any_cons, h, Bool.false_or, List.findIdx_cons, cond_false]
      split <;> simp; omega
    · simp [h, List.findIdx_cons]
def firstBadI (l : List OpP) : Int := if l.all opB then -1 else (l.findIdx fun o => !opB o : Nat)
/-- An error is nil just where its number is nought. -/
def ErrNil (v : Value) (n : Int) : Prop := (v = .nilIface ∧ n = 0) ∨ ((∃ t p, v = .iface t p) ∧ n ≠ 0)

def fwφ (ob : Nat) (n a m x y : Int) (s u : ByteArray) : Nat → World → Value → Prop := fun i V v => match i with
  | 0 => v = .pointer (some ⟨ob, 0, none⟩)
  | 1 => v = .pointer (some ⟨ob, 0, none⟩)
  | 2 => v = .int .i64 n
  | 3 => v = .string ⟨(Lib.itoa n).toArray⟩
  | 4 => v = .pointer (some ⟨ob, 0, none⟩)
  | 5 => v = .pointer (some ⟨ob, 1, none⟩)
  | 6 => v = .int .i64 a
  | 7 => v = .string ⟨(Lib.itoa a).toArray⟩
  | 8 => v = .pointer (some ⟨ob, 0, none⟩)
  | 9 => v = .pointer (some ⟨ob, 2, none⟩)
  | 10 => v = .string s
  | 11 => v = .string ⟨(dashL s).toArray⟩
  | 12 => v = .pointer (some ⟨ob, 0, none⟩)
  | 13 => v = .pointer (some ⟨ob, 3, none⟩)
  | 14 => v = .int .i64 m
  | 15 => v = .string ⟨(Lib.itoa m).toArray⟩
  | 16 => v = .pointer (some ⟨ob, 4, none⟩)
  | 17 => v = .pointer (some ⟨ob, 4, none⟩)
  | 18 => v = .int .i64 x
  | 19 => v = .string ⟨(Lib.itoa x).toArray⟩
  | 20 => v = .pointer (some ⟨ob, 4, none⟩)
  | 21 => v = .pointer (some ⟨ob, 5, none⟩)
  | 22 => v = .int .i64 y
  | 23 => v = .string ⟨(Lib.itoa y).toArray⟩
  | 24 => v = .pointer (some ⟨ob, 6, none⟩)
  | 25 => v = .string u
  | 26 => v = .string ⟨(dashL u).toArray⟩
  | 27 => ∃ g, v = .slice (some ⟨g, 0, none⟩) 7 7 ∧ textsAt V (some ⟨g, 0, none⟩) (opBs ⟨⟨n, a, s, m⟩, x, y, u⟩)
  | _ => True
theorem fwφ_0 (ob : Nat) (n a m x y : Int) (s u : ByteArray) (V : World) (v : Value) (h : fwφ ob n a m x y s u 0 V v) : v = .pointer (some ⟨ob, 0, none⟩) := h
theorem fwφ_1 (ob : Nat) (n a m x y : Int) (s u : ByteArray) (V : World) (v : Value) (h : fwφ ob n a m x y s u 1 V v) : v = .pointer (some ⟨ob, 0, none⟩) := h
theorem fwφ_2 (ob : Nat) (n a m x y : Int) (s u : ByteArray) (V : World) (v : Value) (h : fwφ ob n a m x y s u 2 V v) : v = .int .i64 n := h
theorem fwφ_3 (ob : Nat) (n a m x y : Int) (s u : ByteArray) (V : World) (v : Value) (h : fwφ ob n a m x y s u 3 V v) : v = .string ⟨(Lib.itoa n).toArray⟩ := h
theorem fwφ_4 (ob : Nat) (n a m x y : Int) (s u : ByteArray) (V : World) (v : Value) (h : fwφ ob n a m x y s u 4 V v) : v = .pointer (some ⟨ob, 0, none⟩) := h
theorem fwφ_5 (ob : Nat) (n a m x y : Int) (s u : ByteArray) (V : World) (v : Value) (h : fwφ ob n a m x y s u 5 V v) : v = .pointer (some ⟨ob, 1, none⟩) := h
theorem fwφ_6 (ob : Nat) (n a m x y : Int) (s u : ByteArray) (V : World) (v : Value) (h : fwφ ob n a m x y s u 6 V v) : v = .int .i64 a := h
theorem fwφ_7 (ob : Nat) (n a m x y : Int) (s u : ByteArray) (V : World) (v : Value) (h : fwφ ob n a m x y s u 7 V v) : v = .string ⟨(Lib.itoa a).toArray⟩ := h
theorem fwφ_8 (ob : Nat) (n a m x y : Int) (s u : ByteArray) (V : World) (v : Value) (h : fwφ ob n a m x y s u 8 V v) : v = .pointer (some ⟨ob, 0, none⟩) := h
theorem fwφ_9 (ob : Nat) (n a m x y : Int) (s u : ByteArray) (V : World) (v : Value) (h : fwφ ob n a m x y s u 9 V v) : v = .pointer (some ⟨ob, 2, none⟩) := h
theorem fwφ_10 (ob : Nat) (n a m x y : Int) (s u : ByteArray) (V : World) (v : Value) (h : fwφ ob n a m x y s u 10 V v) : v = .string s := h
theorem fwφ_11 (ob : Nat) (n a m x y : Int) (s u : ByteArray) (V : World) (v : Value) (h : fwφ ob n a m x y s u 11 V v) : v = .string ⟨(dashL s).toArray⟩ := h
theorem fwφ_12 (ob : Nat) (n a m x y : Int) (s u : ByteArray) (V : World) (v : Value) (h : fwφ ob n a m x y s u 12 V v) : v = .pointer (some ⟨ob, 0, none⟩) := h
theorem fwφ_13 (ob : Nat) (n a m x y : Int) (s u : ByteArray) (V : World) (v : Value) (h : fwφ ob n a m x y s u 13 V v) : v = .pointer (some ⟨ob, 3, none⟩) := h
theorem fwφ_14 (ob : Nat) (n a m x y : Int) (s u : ByteArray) (V : World) (v : Value) (h : fwφ ob n a m x y s u 14 V v) : v = .int .i64 m := h
theorem fwφ_15 (ob : Nat) (n a m x y : Int) (s u : ByteArray) (V : World) (v : Value) (h : fwφ ob n a m x y s u 15 V v) : v = .string ⟨(Lib.itoa m).toArray⟩ := h
theorem fwφ_16 (ob : Nat) (n a m x y : Int) (s u : ByteArray) (V : World) (v : Value) (h : fwφ ob n a m x y s u 16 V v) : v = .pointer (some ⟨ob, 4, none⟩) := h
theorem fwφ_17 (ob : Nat) (n a m x y : Int) (s u : ByteArray) (V : World) (v : Value) (h : fwφ ob n a m x y s u 17 V v) : v = .pointer (some ⟨ob, 4, none⟩) := h
theorem fwφ_18 (ob : Nat) (n a m x y : Int) (s u : ByteArray) (V : World) (v : Value) (h : fwφ ob n a m x y s u 18 V v) : v = .int .i64 x := h
theorem fwφ_19 (ob : Nat) (n a m x y : Int) (s u : ByteArray) (V : World) (v : Value) (h : fwφ ob n a m x y s u 19 V v) : v = .string ⟨(Lib.itoa x).toArray⟩ := h
theorem fwφ_20 (ob : Nat) (n a m x y : Int) (s u : ByteArray) (V : World) (v : Value) (h : fwφ ob n a m x y s u 20 V v) : v = .pointer (some ⟨ob, 4, none⟩) := h
theorem fwφ_21 (ob : Nat) (n a m x y : Int) (s u : ByteArray) (V : World) (v : Value) (h : fwφ ob n a m x y s u 21 V v) : v = .pointer (some ⟨ob, 5, none⟩) := h
theorem fwφ_22 (ob : Nat) (n a m x y : Int) (s u : ByteArray) (V : World) (v : Value) (h : fwφ ob n a m x y s u 22 V v) : v = .int .i64 y := h
theorem fwφ_23 (ob : Nat) (n a m x y : Int) (s u : ByteArray) (V : World) (v : Value) (h : fwφ ob n a m x y s u 23 V v) : v = .string ⟨(Lib.itoa y).toArray⟩ := h
theorem fwφ_24 (ob : Nat) (n a m x y : Int) (s u : ByteArray) (V : World) (v : Value) (h : fwφ ob n a m x y s u 24 V v) : v = .pointer (some ⟨ob, 6, none⟩) := h
theorem fwφ_25 (ob : Nat) (n a m x y : Int) (s u : ByteArray) (V : World) (v : Value) (h : fwφ ob n a m x y s u 25 V v) : v = .string u := h
theorem fwφ_26 (ob : Nat) (n a m x y : Int) (s u : ByteArray) (V : World) (v : Value) (h : fwφ ob n a m x y s u 26 V v) : v = .string ⟨(dashL u).toArray⟩ := h
theorem fwφ_27 (ob : Nat) (n a m x y : Int) (s u : ByteArray) (V : World) (v : Value) (h : fwφ ob n a m x y s u 27 V v) : ∃ g, v = .slice (some ⟨g, 0, none⟩) 7 7 ∧ textsAt V (some ⟨g, 0, none⟩) (opBs ⟨⟨n, a, s, m⟩, x, y, u⟩) := h
theorem fwφ_mono (ob : Nat) (n a m x y : Int) (s u : ByteArray) (i : Nat) (V V' : World) (v : Value) (hb : Below V.heap.size V V') (h : fwφ ob n a m x y s u i V v) : fwφ ob n a m x y s u i V' v :=
  match i, h with
  | 0, h => h
  | 1, h => h
  | 2, h => h
  | 3, h => h
  | 4, h => h
  | 5, h => h
  | 6, h => h
  | 7, h => h
  | 8, h => h
  | 9, h => h
  | 10, h => h
  | 11, h => h
  | 12, h => h
  | 13, h => h
  | 14, h => h
  | 15, h => h
  | 16, h => h
  | 17, h => h
  | 18, h => h
  | 19, h => h
  | 20, h => h
  | 21, h => h
  | 22, h => h
  | 23, h => h
  | 24, h => h
  | 25, h => h
  | 26, h => h
  | 27, h => let ⟨g, e, hg⟩ := h; ⟨g, e, hg.below hb⟩
  | _ + 28, _ => trivial
theorem fwφ_list {X : List Value} (h : X.length = 28) : ∃ x0 x1 x2 x3 x4 x5 x6 x7 x8 x9 x10 x11 x12 x13 x14 x15 x16 x17 x18 x19 x20 x21 x22 x23 x24 x25 x26 x27, X = [x0, x1, x2, x3, x4, x5, x6, x7, x8, x9, x10, x11, x12, x13, x14, x15, x16, x17, x18, x19, x20, x21, x22, x23, x24, x25, x26, x27] :=
  match X, h with | [x0, x1, x2, x3, x4, x5, x6, x7, x8, x9, x10, x11, x12, x13, x14, x15, x16, x17, x18, x19, x20, x21, x22, x23, x24, x25, x26, x27], _ => ⟨x0, x1, x2, x3, x4, x5, x6, x7, x8, x9, x10, x11, x12, x13, x14, x15, x16, x17, x18, x19, x20, x21, x22, x23, x24, x25, x26, x27, rfl⟩

theorem indexOp_any (ao : Option Addr) (c : Nat) (l : List OpP) (w : World) (hl : opsAt w ao l) (hn : l.length ≤ 20) (h0 : 1 ≤ l.length) (hs : ∀ o ∈ l, o.key.word.size ≤ 100000 ∧ o.value.size ≤ 100000) :
    Calls Tryz.prog 89 #[.slice ao l.length c, .func (.func 90) #[] #[]] w fun e w' => e = .returned (.int .i64 (firstBadI l)) ∧ Below w.heap.size w w' := by
  obtain ⟨zs, rfl⟩ : ∃ zs : List OpS, l = zs.map (·.1) := ⟨l.attach.map fun o => ⟨o.1, hs o.1 o.2⟩, by simp⟩
  have hlz : (zs.map (·.1)).length = zs.length := by simp
  rw [hlz] at hn h0 ⊢
  obtain ⟨b, f, rfl, hb⟩ : ∃ b f, ao = some ⟨b, f, none⟩ ∧ b < w.heap.size := by
    obtain ⟨b, f, h1, h2⟩ := hl 0 (zs[0].1) (by rw [List.getElem?_map, List.getElem?_eq_getElem (by omega)]; rfl)
    exact ⟨b, f, h1, World.block_lt_of_cell? w _ (h2 0 _ rfl)⟩
  have hc : ∀ j, j < zs.length → ∀ i v, (opCells (zs[j]!).1)[i]? = some v → w.cell? ⟨b, f + j * 7 + i, none⟩ = some v := fun j hj i v hv => by
    obtain ⟨b', f', h1, h2⟩ := hl j (zs[j]!).1 (by simp [hj])
    cases h1
    exact h2 i v hv
  have := AnyQ.slices_IndexFunc Tryz.indexOp 7 Tryz.isAgg70 Tryz.sizeOf70 (fun x : OpS => opCells x.1) (fun _ => rfl) (fun x : OpS => !opB x.1) 90 #[] (enters_of Tryz.func90 (by kernel_rfl) rfl) b f zs.length c zs w
    (fun W x hW => by rw [Array.append_empty]; exact (fwrite1_any x.1.key.kind x.1.key.a x.1.key.b x.1.fr x.1.to x.1.key.word x.1.value W (by have := x.2; unfold maxLen; omega) (by have := x.2; unfold maxLen; omega)).mono fun e w' ⟨h1, h2⟩ => ⟨h1, hW.trans (h2.mono hW.size)⟩) (Nat.le_refl _) (by omega) hb hc
  refine this.mono fun e w' ⟨he, hb'⟩ => ⟨?_, hb'⟩
  rw [he, List.take_length]
  unfold Lib.idxBy firstBadI
  rw [idx_eq]
  have e1 : zs.any (fun x => !opB x.1) = !(zs.map (·.1)).all opB := by
    rw [List.all_map, Bool.eq_iff_iff]; simp
  have e2 : zs.findIdx (fun x => !opB x.1) = (zs.map (·.1)).findIdx fun o => !opB o := by rw [List.findIdx_map]; rfl
  rw [e1, e2]
  cases (zs.map (·.1)).all opB <;> simp

set_option maxRecDepth 100000 in
set_option maxHeartbeats 2000000 in
theorem fwrite_any (ao : Option Addr) (c : Nat) (l : List OpP) (w : World) (hl : opsAt w ao l) (hm : l.length ≤ maxLen) (hs : ∀ o ∈ l, o.key.word.size ≤ 100000 ∧ o.value.size ≤ 100000) (ht : PowTab w) :
    Calls Tryz.prog 47 #[.slice ao l.length c] w fun e w' => (∃ v, e = .returned (.tuple #[.string ⟨(writeR l).1.toArray⟩, v]) ∧ ErrIs w' v (writeR l).2.1 (writeR l).2.2 ∧ ErrNil v (writeR l).2.1) ∧ Below w.heap.size w w' := by
  cases hlen : lenB l
  · rw [writeR_len hlen]
    have hd : l.length < 1 ∨ 8 < l.length := by unfold lenB at hlen; simp at hlen; omega
    clear hlen hl hs ht
    unfold maxLen at hm
    rcases hd with hd | hd
    · go_enter Tryz.func47, Tryz.ntmps47
      go_wp2
      exact bodyPost_ret (v := .tuple #[.string ⟨#[]⟩, .iface 52 (.int .i64 4)]) (by simp [results, Tryz.results47, go_sem]) rfl ⟨⟨_, rfl, Or.inr (Or.inl ⟨rfl, rfl⟩), Or.inr ⟨⟨_, _, rfl⟩, by decide⟩⟩, Below.refl _ _⟩
    · go_enter Tryz.func47, Tryz.ntmps47
      go_wp2
      exact bodyPost_ret (v := .tuple #[.string ⟨#[]⟩, .iface 52 (.int .i64 4)]) (by simp [results, Tryz.results47, go_sem]) rfl ⟨⟨_, rfl, Or.inr (Or.inl ⟨rfl, rfl⟩), Or.inr ⟨⟨_, _, rfl⟩, by decide⟩⟩, Below.refl _ _⟩
  · have hd : 1 ≤ l.length ∧ l.length ≤ 8 := by unfold lenB at hlen; simpa using hlen
    obtain ⟨hd1, hd2⟩ := hd
    have hn := lenB_le hlen
    have hI := indexOp_any ao c l w hl (by omega) hd1 hs
    have HLen := Lib.hid hlen
    have HS := Lib.hid hs
    have HT := Lib.hid ht
    have HL := Lib.hid hl
    clear hs ht hl hlen
    cases hall : l.all opB
    · have hk : firstBadI l = ((l.findIdx fun o => !opB o : Nat) : Int) := by unfold firstBadI; rw [hall]; rfl
      have hR : writeR l = ([], 1, ((l.findIdx fun o => !opB o : Nat) : Int)) := by unfold writeR; rw [HLen.out, hall]; rfl
      rw [hk] at hI
      rw [hR]
      generalize (l.findIdx fun o => !opB o) = k at *
      have HI := Lib.hid hI
      clear hI hk hR hall
      go_enter Tryz.func47, Tryz.ntmps47
      go_wp2_with (go_at_call 89; refine HI.out.mono ?_; rintro e w1 ⟨rfl, h1⟩)
      exact bodyPost_ret (v := .tuple #[.string ⟨#[]⟩, .iface 172 (.pointer (some ⟨w1.heap.size, 0, none⟩))]) (by simp [results, Tryz.results47, go_sem]) rfl ⟨⟨_, rfl, Or.inr (Or.inr ⟨_, rfl, by simp, by simp⟩), Or.inr ⟨⟨_, _, rfl⟩, by show (1 : Int) ≠ 0; decide⟩⟩, h1.alloc h1.size _⟩
    · have hk : firstBadI l = -1 := by unfold firstBadI; rw [hall]; rfl
      rw [hk] at hI
      rw [writeR_good HLen.out hall]
      have HI := Lib.hid hI
      have HA := Lib.hid hall
      clear hI hk hall
      go_enter Tryz.func47, Tryz.ntmps47
      go_wp2_with (go_at_call 89; refine HI.out.mono ?_; rintro e w1 ⟨rfl, h1⟩)
      have HB := Lib.hid h1
      clear h1
      go_loopw [5, 28] (fun v i wr => ∃ k : Nat, k ≤ l.length ∧ i = .int .i64 k ∧ wr.ownsRow w.heap.size 9 1 v (bytesL ((l.take k).map opT)).length ((bytesL ((l.take k).map opT)).map Value.string) ∧ Below w.heap.size w wr) (fun _ i _ => l.length - (intOf i).toNat)
      case atStart => exact ⟨0, by omega, rfl, World.ownsRow_nil _ _ _ _, HB.out⟩
      case round =>
        obtain ⟨k, hk, rfl, hown, hB⟩ := hrel
        by_cases hlt : k < l.length
        · have hBr := HB.out
          obtain ⟨b, f, n, a, s, m, x, y, u, g1, rfl, hb, c0, c1, c2, c3, c4, c5, c6⟩ := opsAt_get (HL.out.below hB) hlt
          have hmem : (⟨⟨n, a, s, m⟩, x, y, u⟩ : OpP) ∈ l := List.mem_of_getElem? g1.out
          have hsz := HS.out _ hmem
          simp only at hsz
          have hv : opB ⟨⟨n, a, s, m⟩, x, y, u⟩ = true := List.all_eq_true.1 HA.out _ hmem
          have hwf := opB_wf hv
          have hlen1 := Lib.hid (opT_len hv)
          obtain ⟨i1, i2, i3, i4, i5⟩ := hwf
          obtain ⟨w2, hW1⟩ : ∃ W1, W1 = wr.alloc (.cells #[.int .i64 n, .int .i64 a, .string s, .int .i64 m, .int .i64 x, .int .i64 y, .string u] 70) := ⟨_, rfl⟩
          have b1 : Below wr.heap.size wr w2 := by rw [hW1]; exact (Below.refl _ wr).alloc (Nat.le_refl _) _
          have hoW : wr.heap.size < w2.heap.size := by rw [hW1]; simp
          obtain ⟨ob, hob⟩ : ∃ ob, ob = wr.heap.size := ⟨_, rfl⟩
          rw [← hob] at hoW
          have c0 : w2.cell? ⟨ob, 0, none⟩ = some (.int .i64 n) := by rw [hob, hW1]; simp
          have c1 : w2.cell? ⟨ob, 1, none⟩ = some (.int .i64 a) := by rw [hob, hW1]; simp
          have c2 : w2.cell? ⟨ob, 2, none⟩ = some (.string s) := by rw [hob, hW1]; simp
          have c3 : w2.cell? ⟨ob, 3, none⟩ = some (.int .i64 m) := by rw [hob, hW1]; simp
          have c4 : w2.cell? ⟨ob, 4, none⟩ = some (.int .i64 x) := by rw [hob, hW1]; simp
          have c5 : w2.cell? ⟨ob, 5, none⟩ = some (.int .i64 y) := by rw [hob, hW1]; simp
          have c6 : w2.cell? ⟨ob, 6, none⟩ = some (.string u) := by rw [hob, hW1]; simp
          have hBw1 := below_trans hB hB.size b1
          have tW := HT.out.below hBw1
          have HB1 := Lib.hid hBw1
          have HO1 := Lib.hid (ownsRow_below hown b1)
          have HW1 := Lib.hid hW1
          have HOB := Lib.hid hob
          have hV := Lib.hid hv
          have hsn : bytesL ((l.take (k + 1)).map opT) = bytesL ((l.take k).map opT) ++ [⟨(opT ⟨⟨n, a, s, m⟩, x, y, u⟩).toArray⟩] := by
            rw [List.take_add_one, g1.out]; simp [bytesL]
          have hle : (bytesL ((l.take k).map opT)).length ≤ k := by rw [bytesL_length, List.length_map]; exact List.length_take_le _ _
          have HSN := Lib.hid hsn
          generalize bytesL ((l.take k).map opT) = M at *
          clear hW1 hob hBw1 hB b1 hv hown hsn hBr
          go_wp2_with fail
          rw [← HW1.out, ← HOB.out]
          refine wp_region_dag_at 32 28 _ (fun V => Below w2.heap.size w2 V) (fun V V' => Below V.heap.size V V') (fwφ ob n a m x y s u) rfl (by kernel_rfl) (by kernel_rfl) ?_ rfl (Below.refl _ _).drew ?_ ?_
          · exact fun i V V' v _ _ hb h => fwφ_mono _ _ _ _ _ _ _ _ i V V' v hb h
          · simp only [List.take_succ_cons, List.take_zero, DagSteps, and_true]
            refine ⟨?_, ?_, ?_, ?_, ?_, ?_, ?_, ?_, ?_, ?_, ?_, ?_, ?_, ?_, ?_, ?_, ?_, ?_, ?_, ?_, ?_, ?_, ?_, ?_, ?_, ?_, ?_, ?_⟩
            · intro A V K hC hP hd hK
              have p7 : A.tmps[7]?.getD undef = .pointer (some ⟨ob, 0, none⟩) := evalT (hP 7 (of_decide_eq_true rfl))
              clear hP hd
              unfold Oper.wp
              go_simp
              exact hK _ _ hC (Below.refl _ _) rfl
            · intro A V K hC hP hd hK
              have e0 : A.tmps[32]?.getD undef = .pointer (some ⟨ob, 0, none⟩) := evalT (fwφ_0 _ _ _ _ _ _ _ _ _ _ (hd 0 (by kernel_rfl)))
              clear hP hd
              unfold Oper.wp
              go_simp
              exact hK _ _ hC (Below.refl _ _) rfl
            · intro A V K hC hP hd hK
              have e1 : A.tmps[33]?.getD undef = .pointer (some ⟨ob, 0, none⟩) := evalT (fwφ_1 _ _ _ _ _ _ _ _ _ _ (hd 1 (by kernel_rfl)))
              have d0 := below_cell hC hoW c0
              clear hP hd
              unfold Oper.wp
              go_simp
              exact hK _ _ hC (Below.refl _ _) rfl
            · intro A V K hC hP hd hK
              have e2 : A.tmps[34]?.getD undef = .int .i64 n := evalT (fwφ_2 _ _ _ _ _ _ _ _ _ _ (hd 2 (by kernel_rfl)))
              clear hP hd
              unfold Oper.wp
              go_simp
              refine (itoa_any n i1 V (tW.below hC)).mono ?_
              rintro e w1 ⟨rfl, h1⟩
              exact hK _ _ (below_trans hC hC.size h1) h1 rfl
            · intro A V K hC hP hd hK
              have p7 : A.tmps[7]?.getD undef = .pointer (some ⟨ob, 0, none⟩) := evalT (hP 7 (of_decide_eq_true rfl))
              clear hP hd
              unfold Oper.wp
              go_simp
              exact hK _ _ hC (Below.refl _ _) rfl
            · intro A V K hC hP hd hK
              have e4 : A.tmps[36]?.getD undef = .pointer (some ⟨ob, 0, none⟩) := evalT (fwφ_4 _ _ _ _ _ _ _ _ _ _ (hd 4 (by kernel_rfl)))
              clear hP hd
              unfold Oper.wp
              go_simp
              exact hK _ _ hC (Below.refl _ _) rfl
            · intro A V K hC hP hd hK
              have e5 : A.tmps[37]?.getD undef = .pointer (some ⟨ob, 1, none⟩) := evalT (fwφ_5 _ _ _ _ _ _ _ _ _ _ (hd 5 (by kernel_rfl)))
              have d1 := below_cell hC hoW c1
              clear hP hd
              unfold Oper.wp
              go_simp
              exact hK _ _ hC (Below.refl _ _) rfl
            · intro A V K hC hP hd hK
              have e6 : A.tmps[38]?.getD undef = .int .i64 a := evalT (fwφ_6 _ _ _ _ _ _ _ _ _ _ (hd 6 (by kernel_rfl)))
              clear hP hd
              unfold Oper.wp
              go_simp
              refine (itoa_any a i2 V (tW.below hC)).mono ?_
              rintro e w1 ⟨rfl, h1⟩
              exact hK _ _ (below_trans hC hC.size h1) h1 rfl
            · intro A V K hC hP hd hK
              have p7 : A.tmps[7]?.getD undef = .pointer (some ⟨ob, 0, none⟩) := evalT (hP 7 (of_decide_eq_true rfl))
              clear hP hd
              unfold Oper.wp
              go_simp
              exact hK _ _ hC (Below.refl _ _) rfl
            · intro A V K hC hP hd hK
              have e8 : A.tmps[40]?.getD undef = .pointer (some ⟨ob, 0, none⟩) := evalT (fwφ_8 _ _ _ _ _ _ _ _ _ _ (hd 8 (by kernel_rfl)))
              clear hP hd
              unfold Oper.wp
              go_simp
              exact hK _ _ hC (Below.refl _ _) rfl
            · intro A V K hC hP hd hK
              have e9 : A.tmps[41]?.getD undef = .pointer (some ⟨ob, 2, none⟩) := evalT (fwφ_9 _ _ _ _ _ _ _ _ _ _ (hd 9 (by kernel_rfl)))
              have d2 := below_cell hC hoW c2
              clear hP hd
              unfold Oper.wp
              go_simp
              exact hK _ _ hC (Below.refl _ _) rfl
            · intro A V K hC hP hd hK
              have e10 : A.tmps[42]?.getD undef = .string s := evalT (fwφ_10 _ _ _ _ _ _ _ _ _ _ (hd 10 (by kernel_rfl)))
              clear hP hd
              unfold Oper.wp
              go_simp
              refine (dashF_any s V).mono ?_
              rintro e w1 ⟨rfl, rfl⟩
              exact hK _ _ hC (Below.refl _ _) rfl
            · intro A V K hC hP hd hK
              have p7 : A.tmps[7]?.getD undef = .pointer (some ⟨ob, 0, none⟩) := evalT (hP 7 (of_decide_eq_true rfl))
              clear hP hd
              unfold Oper.wp
              go_simp
              exact hK _ _ hC (Below.refl _ _) rfl
            · intro A V K hC hP hd hK
              have e12 : A.tmps[44]?.getD undef = .pointer (some ⟨ob, 0, none⟩) := evalT (fwφ_12 _ _ _ _ _ _ _ _ _ _ (hd 12 (by kernel_rfl)))
              clear hP hd
              unfold Oper.wp
              go_simp
              exact hK _ _ hC (Below.refl _ _) rfl
            · intro A V K hC hP hd hK
              have e13 : A.tmps[45]?.getD undef = .pointer (some ⟨ob, 3, none⟩) := evalT (fwφ_13 _ _ _ _ _ _ _ _ _ _ (hd 13 (by kernel_rfl)))
              have d3 := below_cell hC hoW c3
              clear hP hd
              unfold Oper.wp
              go_simp
              exact hK _ _ hC (Below.refl _ _) rfl
            · intro A V K hC hP hd hK
              have e14 : A.tmps[46]?.getD undef = .int .i64 m := evalT (fwφ_14 _ _ _ _ _ _ _ _ _ _ (hd 14 (by kernel_rfl)))
              clear hP hd
              unfold Oper.wp
              go_simp
              refine (itoa_any m i3 V (tW.below hC)).mono ?_
              rintro e w1 ⟨rfl, h1⟩
              exact hK _ _ (below_trans hC hC.size h1) h1 rfl
            · intro A V K hC hP hd hK
              have p7 : A.tmps[7]?.getD undef = .pointer (some ⟨ob, 0, none⟩) := evalT (hP 7 (of_decide_eq_true rfl))
              clear hP hd
              unfold Oper.wp
              go_simp
              exact hK _ _ hC (Below.refl _ _) rfl
            · intro A V K hC hP hd hK
              have e16 : A.tmps[48]?.getD undef = .pointer (some ⟨ob, 4, none⟩) := evalT (fwφ_16 _ _ _ _ _ _ _ _ _ _ (hd 16 (by kernel_rfl)))
              clear hP hd
              unfold Oper.wp
              go_simp
              exact hK _ _ hC (Below.refl _ _) rfl
            · intro A V K hC hP hd hK
              have e17 : A.tmps[49]?.getD undef = .pointer (some ⟨ob, 4, none⟩) := evalT (fwφ_17 _ _ _ _ _ _ _ _ _ _ (hd 17 (by kernel_rfl)))
              have d4 := below_cell hC hoW c4
              clear hP hd
              unfold Oper.wp
              go_simp
              exact hK _ _ hC (Below.refl _ _) rfl
            · intro A V K hC hP hd hK
              have e18 : A.tmps[50]?.getD undef = .int .i64 x := evalT (fwφ_18 _ _ _ _ _ _ _ _ _ _ (hd 18 (by kernel_rfl)))
              clear hP hd
              unfold Oper.wp
              go_simp
              refine (itoa_any x i4 V (tW.below hC)).mono ?_
              rintro e w1 ⟨rfl, h1⟩
              exact hK _ _ (below_trans hC hC.size h1) h1 rfl
            · intro A V K hC hP hd hK
              have p7 : A.tmps[7]?.getD undef = .pointer (some ⟨ob, 0, none⟩) := evalT (hP 7 (of_decide_eq_true rfl))
              clear hP hd
              unfold Oper.wp
              go_simp
              exact hK _ _ hC (Below.refl _ _) rfl
            · intro A V K hC hP hd hK
              have e20 : A.tmps[52]?.getD undef = .pointer (some ⟨ob, 4, none⟩) := evalT (fwφ_20 _ _ _ _ _ _ _ _ _ _ (hd 20 (by kernel_rfl)))
              clear hP hd
              unfold Oper.wp
              go_simp
              exact hK _ _ hC (Below.refl _ _) rfl
            · intro A V K hC hP hd hK
              have e21 : A.tmps[53]?.getD undef = .pointer (some ⟨ob, 5, none⟩) := evalT (fwφ_21 _ _ _ _ _ _ _ _ _ _ (hd 21 (by kernel_rfl)))
              have d5 := below_cell hC hoW c5
              clear hP hd
              unfold Oper.wp
              go_simp
              exact hK _ _ hC (Below.refl _ _) rfl
            · intro A V K hC hP hd hK
              have e22 : A.tmps[54]?.getD undef = .int .i64 y := evalT (fwφ_22 _ _ _ _ _ _ _ _ _ _ (hd 22 (by kernel_rfl)))
              clear hP hd
              unfold Oper.wp
              go_simp
              refine (itoa_any y i5 V (tW.below hC)).mono ?_
              rintro e w1 ⟨rfl, h1⟩
              exact hK _ _ (below_trans hC hC.size h1) h1 rfl
            · intro A V K hC hP hd hK
              have p7 : A.tmps[7]?.getD undef = .pointer (some ⟨ob, 0, none⟩) := evalT (hP 7 (of_decide_eq_true rfl))
              clear hP hd
              unfold Oper.wp
              go_simp
              exact hK _ _ hC (Below.refl _ _) rfl
            · intro A V K hC hP hd hK
              have e24 : A.tmps[56]?.getD undef = .pointer (some ⟨ob, 6, none⟩) := evalT (fwφ_24 _ _ _ _ _ _ _ _ _ _ (hd 24 (by kernel_rfl)))
              have d6 := below_cell hC hoW c6
              clear hP hd
              unfold Oper.wp
              go_simp
              exact hK _ _ hC (Below.refl _ _) rfl
            · intro A V K hC hP hd hK
              have e25 : A.tmps[57]?.getD undef = .string u := evalT (fwφ_25 _ _ _ _ _ _ _ _ _ _ (hd 25 (by kernel_rfl)))
              clear hP hd
              unfold Oper.wp
              go_simp
              refine (dashF_any u V).mono ?_
              rintro e w1 ⟨rfl, rfl⟩
              exact hK _ _ hC (Below.refl _ _) rfl
            · intro A V K hC hP hd hK
              have e3 : A.tmps[35]?.getD undef = .string ⟨(Lib.itoa n).toArray⟩ := evalT (fwφ_3 _ _ _ _ _ _ _ _ _ _ (hd 3 (by kernel_rfl)))
              have e7 : A.tmps[39]?.getD undef = .string ⟨(Lib.itoa a).toArray⟩ := evalT (fwφ_7 _ _ _ _ _ _ _ _ _ _ (hd 7 (by kernel_rfl)))
              have e11 : A.tmps[43]?.getD undef = .string ⟨(dashL s).toArray⟩ := evalT (fwφ_11 _ _ _ _ _ _ _ _ _ _ (hd 11 (by kernel_rfl)))
              have e15 : A.tmps[47]?.getD undef = .string ⟨(Lib.itoa m).toArray⟩ := evalT (fwφ_15 _ _ _ _ _ _ _ _ _ _ (hd 15 (by kernel_rfl)))
              have e19 : A.tmps[51]?.getD undef = .string ⟨(Lib.itoa x).toArray⟩ := evalT (fwφ_19 _ _ _ _ _ _ _ _ _ _ (hd 19 (by kernel_rfl)))
              have e23 : A.tmps[55]?.getD undef = .string ⟨(Lib.itoa y).toArray⟩ := evalT (fwφ_23 _ _ _ _ _ _ _ _ _ _ (hd 23 (by kernel_rfl)))
              have e26 : A.tmps[58]?.getD undef = .string ⟨(dashL u).toArray⟩ := evalT (fwφ_26 _ _ _ _ _ _ _ _ _ _ (hd 26 (by kernel_rfl)))
              clear hP hd
              unfold Oper.wp
              go_simp
              exact hK _ _ (hC.alloc hC.size _) ((Below.refl _ _).alloc (Nat.le_refl _) _) ⟨_, rfl, textsAt_new _ _ rfl⟩
          · intro X w3 hX hC hφ
            obtain ⟨x0, x1, x2, x3, x4, x5, x6, x7, x8, x9, x10, x11, x12, x13, x14, x15, x16, x17, x18, x19, x20, x21, x22, x23, x24, x25, x26, x27, rfl⟩ := fwφ_list hX
            have e := fwφ_27 _ _ _ _ _ _ _ _ _ _ (hφ 27 (of_decide_eq_true rfl))
            obtain ⟨g, e, hg⟩ := e
            have e : x27 = .slice (some ⟨g, 0, none⟩) 7 7 := e
            rw [e]
            clear e hφ hX
            unfold Oper.wp
            go_simp
            rename_i hK
            refine hK _ _ ?_
            have hJ := join_any (some ⟨g, 0, none⟩) 7 (opBs ⟨⟨n, a, s, m⟩, x, y, u⟩) ⟨#[32]⟩ w3 hg (Nat.le_refl 7) (by show 7 ≤ _; omega) (by have := hlen1.out; unfold opBs; rw [bytesL_data]; unfold opT at this; simp only; omega)
            have e7 : (opBs ⟨⟨n, a, s, m⟩, x, y, u⟩).length = 7 := rfl
            rw [e7] at hJ
            unfold opBs at hJ
            rw [bytesL_data] at hJ
            have HJ := Lib.hid hJ
            have HO3 := Lib.hid (ownsRow_below HO1.out hC)
            have HB3 := Lib.hid (below_trans HB1.out HB1.out.size hC)
            clear hJ hC hg
            go_wp2_with (first | (go_at_call 93; refine HJ.out.mono ?_; rintro e w4 ⟨rfl, hb1⟩; have HB4 := Lib.hid (below_trans HB3.out HB3.out.size hb1); have HO4 := Lib.hid (ownsRow_below HO3.out hb1); have hs4 := hb1.size; clear hb1) | (at_builtin; refine appText rfl _ _ rfl w.heap.size _ M rfl (HO4.out.alloc _) w4.heap.size ⟨(opT ⟨⟨n, a, s, m⟩, x, y, u⟩).toArray⟩ rfl (by simp; rfl) (by omega) (by have := HB4.out.size; simp; omega) w (HB4.out.alloc HB4.out.size _) ?_; intro v' w5 hown2 hB2 hs2 hg2))
            exact ⟨⟨k + 1, by omega, by go_num, by rw [HSN.out]; exact hown2, hB2⟩, by simp [intOf]; omega⟩
        · have he : l.take k = l := List.take_of_length_le (by omega)
          rw [he] at hown
          clear he
          obtain ⟨ao', cap, rfl, ht1, hcap, _⟩ := ownsRow_texts hown
          have hJ := join_any ao' cap (bytesL (l.map opT)) ⟨#[43]⟩ wr ht1 hcap (by rw [bytesL_length, List.length_map]; omega) (by
            have := join_len [43] 500 (l.map opT) (fun p hp => by
              obtain ⟨o, ho, rfl⟩ := List.mem_map.1 hp
              exact opT_len (List.all_eq_true.1 HA.out _ ho))
            rw [bytesL_data]; simp only [List.length_map, List.length_cons, List.length_nil] at this ⊢; omega)
          rw [bytesL_data] at hJ
          have HJ := Lib.hid hJ
          have HB2 := Lib.hid hB
          clear hJ hown ht1 hB
          go_wp2_with (go_at_call 93; refine HJ.out.mono ?_; rintro e w1 ⟨rfl, hb1⟩)
          exact bodyPost_ret (v := .tuple #[.string ⟨(writeT l).toArray⟩, .nilIface]) (by simp [results, Tryz.results47, go_sem]; rfl) rfl ⟨⟨_, rfl, Or.inl ⟨rfl, rfl, rfl⟩, Or.inl ⟨rfl, rfl⟩⟩, below_trans HB2.out HB2.out.size hb1⟩
end Go.Proofs.YtflhpmgjehjjkaaGreatDoor

namespace Go.Proofs.YtflhpmgjehjjkaaGreatDoor
open Go.RowKit Go.Deep Go.Shelf Go.Sort Go.Maps

/-- The box of a change. -/
def OBox (w : World) (b : Nat) (o : OpP) : Prop := w.heap[b]? = some (.cells #[.int .i64 o.key.kind, .int .i64 o.key.a, .string o.key.word, .int .i64 o.key.b, .int .i64 o.fr, .int .i64 o.to, .string o.value] 70 (0, 0))
theorem OBox.cells {w : World} {b : Nat} {o : OpP} (h : OBox w b o) : w.cell? ⟨b, 0, none⟩ = some (.int .i64 o.key.kind) ∧ w.cell? ⟨b, 1, none⟩ = some (.int .i64 o.key.a) ∧ w.cell? ⟨b, 2, none⟩ = some (.string o.key.word) ∧ w.cell? ⟨b, 3, none⟩ = some (.int .i64 o.key.b) ∧ w.cell? ⟨b, 4, none⟩ = some (.int .i64 o.fr) ∧ w.cell? ⟨b, 5, none⟩ = some (.int .i64 o.to) ∧ w.cell? ⟨b, 6, none⟩ = some (.string o.value) :=
  ⟨block_cell h 0, block_cell h 1, block_cell h 2, block_cell h 3, block_cell h 4, block_cell h 5, block_cell h 6⟩
theorem OBox.frame {F : Nat → Prop} {w w' : World} {b : Nat} {o : OpP} (h : OBox w b o) (hf : Fr F w w') (hn : ¬ F b) : OBox w' b o := hf.keeps h hn
theorem begun_step {pb po : Nat} {R : Rest} {s : Pst} {g g1 : Gh} {w w1 : World} {e : Ending} {w2 : World} (h : Begun pb po R s g1 w1 e w2) (hf : Fr (g.foot pb) w w1) (hg : Grows g g1 pb w) (hk : Keeps g g1) : Begun pb po R s g w e w2 := by
  obtain ⟨g2, h1, h2, h3, h4, h5, h6, h7⟩ := h
  exact ⟨g2, h1, h2, h3, h4, hf.past h5 hg, hg.trans h6 hf.size, hk.trans h7⟩
theorem hits_none {s : Pst} {o : OpP} {g : Gh} (hall : ∀ v ∈ s.vs, ∃ x ∈ g.ts, x.key = v.key) (hy : treeFor g.ts o.key = none) : hits s o = [] := by
  have hti : itemsK s.vs o.key = [] := by
    cases e : itemsK s.vs o.key with
    | nil => rfl
    | cons z l =>
      obtain ⟨v, hv, hvk, _⟩ := mem_itemsK.1 (show z ∈ itemsK s.vs o.key by rw [e]; simp)
      obtain ⟨z', hz', e'⟩ := hall v hv
      exact absurd (e'.trans hvk) (treeFor_none hy z' hz')
  unfold hits meetsL
  rw [hti]
  split
  · simp [sortI]
  · rfl

set_option maxRecDepth 100000 in
set_option maxHeartbeats 4000000 in
theorem psays_none (o : OpP) (pb po : Nat) (R : Rest) (s : Pst) (g : Gh) (w : World) (h : PastAt w pb po R s g) (ha : g.am.isSome = true) (ht : g.tm.isSome = true) (ho : opB o = true) (hn : s.next + 3 ≤ 4000) (hy : treeFor g.ts o.key = none) :
    Calls Tryz.prog 49 #[.pointer (some ⟨pb, po, none⟩), .agg #[.int .i64 o.key.kind, .int .i64 o.key.a, .string o.key.word, .int .i64 o.key.b, .int .i64 o.fr, .int .i64 o.to, .string o.value]] w (Begun pb po R (sayO o s) g w) := by
  have hk := op_key ho
  have hr := opB_right ho
  have hh := hits_none h.all hy
  obtain ⟨tm, ht'⟩ := Option.isSome_iff_exists.1 ht
  obtain ⟨W1, hW1⟩ : ∃ W1, W1 = w.alloc (.cells #[.int .i64 o.key.kind, .int .i64 o.key.a, .string o.key.word, .int .i64 o.key.b, .int .i64 o.fr, .int .i64 o.to, .string o.value] 70) := ⟨_, rfl⟩
  have hB1 : Below w.heap.size w W1 := by rw [hW1]; exact (Below.refl _ w).alloc (Nat.le_refl _) _
  have hK1 : OBox W1 w.heap.size o := by rw [hW1]; exact block_alloc_new w _
  have P1 := h.below hB1
  have hlk : ∀ n, (Instr.lookup 25 (.map (some tm)) (.agg #[.int .i64 o.key.kind, .int .i64 o.key.a, .string o.key.word, .int .i64 o.key.b]) false).run Tryz.prog (W1.drewN n) = .ok (.pointer none) (W1.drewN n) := fun n => by
    have hT := P1.trees.frame (Fr.drewN (Fr.refl (fun _ => False) W1) n) (fun _ _ e => e)
    have := tree_look hT P1.keyOk hk
    rw [ht', trPtr_none hy] at this
    exact this
  obtain ⟨c0, _, _, _, c4⟩ := past_cells P1.len P1.cells
  rw [ht'] at c4
  obtain ⟨k0, k1, k2, k3, k4, k5, k6⟩ := hK1.cells
  have HW1 := Lib.hid hW1
  have HB1 := Lib.hid hB1
  have HP := Lib.hid h
  have HP1 := Lib.hid P1
  have HA := Lib.hid ha
  have HT := Lib.hid ht
  have HK := Lib.hid hk
  have HR := Lib.hid hr
  have HH := Lib.hid hh
  clear hW1 hB1 hK1 h P1 ha ht ht' hy hk hr hh ho
  by_cases h0 : o.value.size = 0
  · have hs : sayO o s = s := by unfold sayO; rw [if_pos h0, HH.out]; rfl
    have hv1 := empty_true h0
    have hv2 : (!o.value.toList.isEmpty) = false := by rw [hv1]; rfl
    have HS := Lib.hid hs
    clear hs h0
    go_enter Tryz.func49, Tryz.ntmps49
    go_wp2_with fail
    rw [← HW1.out]
    go_quiet (fail)
    revert nq; intro n1
    go_wp2_with fail
    refine bodyPost_end (results_none rfl _ _ _) rfl ?_
    have hB : Below w.heap.size w (W1.drewN n1) := below_drewN' HB1.out n1
    rw [HS.out]
    exact ⟨g, rfl, HP.out.below hB, HA.out, HT.out, Fr.new hB, Grows.refl _ _ _, Keeps.refl _⟩
  · have hs : sayO o s = addV s o.key o.fr o.to o.value := by unfold sayO; rw [if_neg h0, HH.out]; rfl
    have hv1 := empty_false h0
    have hv2 : (!o.value.toList.isEmpty) = true := by rw [hv1]; rfl
    have HS := Lib.hid hs
    clear hs h0
    go_enter Tryz.func49, Tryz.ntmps49
    go_wp2_with fail
    rw [← HW1.out]
    go_quiet (fail)
    revert nq; intro n1
    go_wp2_with fail
    obtain ⟨W2, hW2⟩ : ∃ W2, W2 = W1.drewN n1 := ⟨_, rfl⟩
    rw [← hW2]
    have hB2 : Below w.heap.size w W2 := by rw [hW2]; exact below_drewN' HB1.out n1
    have hK2 : OBox W2 w.heap.size o := by rw [hW2, HW1.out]; exact block_alloc_new w _
    have P2 := HP.out.below hB2
    have HP2 := Lib.hid P2
    have HB2 := Lib.hid hB2
    clear c0 c4 k0 k1 k2 k3 k4 k5 k6 hlk
    obtain ⟨c0, _, _, _, _⟩ := past_cells P2.len P2.cells
    obtain ⟨k0, k1, k2, k3, k4, k5, k6⟩ := hK2.cells
    clear hW2 hB2 hK2 P2
    refine wp_region_tail 11 (by kernel_rfl) (by kernel_rfl) ?_
    simp only [List.take_succ_cons, List.take_zero, List.drop_succ_cons, List.drop_zero]
    repeat still_step
    refine wpStill_nil ?_
    go_wp2_with fail
    refine (padd_any o.key o.fr o.to o.value pb po R s g W2.drew (HP2.out.below (Below.refl _ W2).drew) HA.out HT.out HK.out HR.out (by omega)).mono ?_
    intro e w3 hb3
    have hend := begun_step hb3 (Fr.new HB2.out.drew) (Grows.refl _ _ _) (Keeps.refl _)
    rw [← HS.out] at hend
    have HE := Lib.hid hend
    have he : e = .returned (.tuple #[]) := hb3.choose_spec.1
    subst he
    clear hb3 hend
    go_wp2_with fail
    refine bodyPost_end (results_none rfl _ _ _) rfl ?_
    exact HE.out
end Go.Proofs.YtflhpmgjehjjkaaGreatDoor

namespace Go.Proofs.YtflhpmgjehjjkaaGreatDoor
open Go.RowKit Go.Deep Go.Shelf Go.Sort Go.Maps

structure SLoop (pb po : Nat) (R : Rest) (s : Pst) (g : Gh) (o : OpP) (w3 : World) (ids : List Int) (k : Nat) (g' : Gh) (wr : World) : Prop where
  at' : PastAt wr pb po R (sayAll o s (ids.take k)) g'
  say : Say s (sayAll o s (ids.take k)) o (ids.drop k)
  am : g'.am.isSome = true
  tm : g'.tm.isSome = true
  fr : Fr (g.foot pb) w3 wr
  gr : Grows g g' pb w3
  kp : Keeps g g'
structure ILoop (pb po : Nat) (R : Rest) (s : Pst) (g : Gh) (k : KeyP) (x : ByteArray) (parts : List (Int × Int)) (w3 : World) (j : Nat) (g' : Gh) (wr : World) : Prop where
  at' : PastAt wr pb po R (addAll s k x (parts.take j)) g'
  am : g'.am.isSome = true
  tm : g'.tm.isSome = true
  fr : Fr (g.foot pb) w3 wr
  gr : Grows g g' pb w3
  kp : Keeps g g'

/-- The boxes of a round: the change, the version, its span. -/
structure VBox (W : World) (ob vb sb : Nat) (o : OpP) (v : Ver) (en : Int) : Prop where
  op : OBox W ob o
  ver : W.heap[vb]? = some (.cells #[.int .i64 v.key.kind, .int .i64 v.key.a, .string v.key.word, .int .i64 v.key.b, .string v.val, .int .i64 v.bg, .int .i64 en] 179 (0, 0))
  span : W.heap[sb]? = some (.cells #[.int .i64 v.fr, .int .i64 v.to] 68 (0, 0))
theorem VBox.frame {F : Nat → Prop} {W W' : World} {ob vb sb : Nat} {o : OpP} {v : Ver} {en : Int} (h : VBox W ob vb sb o v en) (hf : Fr F W W') (h1 : ¬ F ob) (h2 : ¬ F vb) (h3 : ¬ F sb) : VBox W' ob vb sb o v en := ⟨h.op.frame hf h1, hf.keeps h.ver h2, hf.keeps h.span h3⟩
theorem VBox.vcells {W : World} {ob vb sb : Nat} {o : OpP} {v : Ver} {en : Int} (h : VBox W ob vb sb o v en) : W.cell? ⟨vb, 0, none⟩ = some (.int .i64 v.key.kind) ∧ W.cell? ⟨vb, 1, none⟩ = some (.int .i64 v.key.a) ∧ W.cell? ⟨vb, 2, none⟩ = some (.string v.key.word) ∧ W.cell? ⟨vb, 3, none⟩ = some (.int .i64 v.key.b) ∧ W.cell? ⟨vb, 4, none⟩ = some (.string v.val) ∧ W.cell? ⟨vb, 5, none⟩ = some (.int .i64 v.bg) ∧ W.cell? ⟨vb, 6, none⟩ = some (.int .i64 en) :=
  ⟨block_cell h.ver 0, block_cell h.ver 1, block_cell h.ver 2, block_cell h.ver 3, block_cell h.ver 4, block_cell h.ver 5, block_cell h.ver 6⟩

/-- What the parts need of them. -/
structure TBox (W : World) (ob vb sb : Nat) (o : OpP) (v : Ver) : Prop where
  op : OBox W ob o
  val : W.cell? ⟨vb, 4, none⟩ = some (.string v.val)
  span : W.heap[sb]? = some (.cells #[.int .i64 v.fr, .int .i64 v.to] 68 (0, 0))
theorem TBox.frame {F : Nat → Prop} {W W' : World} {ob vb sb : Nat} {o : OpP} {v : Ver} (h : TBox W ob vb sb o v) (hf : Fr F W W') (h1 : ¬ F ob) (h2 : ¬ F vb) (h3 : ¬ F sb) : TBox W' ob vb sb o v := ⟨h.op.frame hf h1, hf.cell h.val h2, hf.keeps h.span h3⟩
theorem VBox.toT {W : World} {ob vb sb : Nat} {o : OpP} {v : Ver} {en : Int} (h : VBox W ob vb sb o v en) : TBox W ob vb sb o v := ⟨h.op, block_cell h.ver 4, h.span⟩
/-- Where a round stands once the version is struck, or ended. -/
structure Mid (pb po : Nat) (R : Rest) (g : Gh) (o : OpP) (v : Ver) (w3 : World) (ob vb sb : Nat) (bs : Pst) (g9 : Gh) (w9 : World) : Prop where
  at' : PastAt w9 pb po R bs g9
  am : g9.am.isSome = true
  tm : g9.tm.isSome = true
  fr : Fr (g.foot pb) w3 w9
  gr : Grows g g9 pb w3
  kp : Keeps g g9
  box : TBox w9 ob vb sb o v
  no : ∀ j, g9.foot pb j → j ≠ ob ∧ j < vb
  size : sb < w9.heap.size

theorem mid_of {pb po : Nat} {R : Rest} {s : Pst} {g g' g9 : Gh} {o : OpP} {v : Ver} {w3 wr W7 w9 : World} {ids : List Int} {k ob vb sb : Nat} {bs : Pst} (hL : SLoop pb po R s g o w3 ids k g' wr) (hB : Below wr.heap.size wr W7)
    (P9 : PastAt w9 pb po R bs g9) (ea : g9.am = g'.am) (et : g9.tm = g'.tm) (F9 : Fr (g'.foot pb) W7 w9) (hsub : ∀ j, g9.foot pb j → g'.foot pb j) (K9 : Keeps g' g9) (hX : TBox w9 ob vb sb o v) (hno : ∀ j, g'.foot pb j → j ≠ ob ∧ j < vb) (hs : sb < w9.heap.size) :
    Mid pb po R g o v w3 ob vb sb bs g9 w9 :=
  ⟨P9, by rw [ea]; exact hL.am, by rw [et]; exact hL.tm, (hL.fr.trans (Fr.new hB)).past F9 hL.gr, fun j hj => hL.gr j (hsub j hj), hL.kp.trans K9, hX, fun j hj => hno j (hsub j hj), hs⟩

set_option maxRecDepth 100000 in
set_option maxHeartbeats 8000000 in
theorem psays_some (o : OpP) (pb po : Nat) (R : Rest) (s : Pst) (g : Gh) (y : Tr) (w : World) (h : PastAt w pb po R s g) (hW : Wf s) (ha : g.am.isSome = true) (ht : g.tm.isSome = true) (ho : opB o = true) (_hn0 : 1 ≤ s.now) (_hn1 : s.now ≤ 150) (hn : s.next + 3 ≤ 4000) (hy : treeFor g.ts o.key = some y) :
    Calls Tryz.prog 49 #[.pointer (some ⟨pb, po, none⟩), .agg #[.int .i64 o.key.kind, .int .i64 o.key.a, .string o.key.word, .int .i64 o.key.b, .int .i64 o.fr, .int .i64 o.to, .string o.value]] w (Begun pb po R (sayO o s) g w) := by
  have hk := op_key ho
  have hr := opB_right ho
  obtain ⟨tm, ht'⟩ := Option.isSome_iff_exists.1 ht
  obtain ⟨hym, hyk⟩ := treeFor_some hy
  obtain ⟨W1, hW1⟩ : ∃ W1, W1 = w.alloc (.cells #[.int .i64 o.key.kind, .int .i64 o.key.a, .string o.key.word, .int .i64 o.key.b, .int .i64 o.fr, .int .i64 o.to, .string o.value] 70) := ⟨_, rfl⟩
  have hB1 : Below w.heap.size w W1 := by rw [hW1]; exact (Below.refl _ w).alloc (Nat.le_refl _) _
  have hK1 : OBox W1 w.heap.size o := by rw [hW1]; exact block_alloc_new w _
  have hs1 : w.heap.size < W1.heap.size := by rw [hW1]; simp
  have P1 := h.below hB1
  have hlk : ∀ n, (Instr.lookup 25 (.map (some tm)) (.agg #[.int .i64 o.key.kind, .int .i64 o.key.a, .string o.key.word, .int .i64 o.key.b]) false).run Tryz.prog (W1.drewN n) = .ok (.pointer (some ⟨y.tb, 0, none⟩)) (W1.drewN n) := fun n => by
    have hT := P1.trees.frame (Fr.drewN (Fr.refl (fun _ => False) W1) n) (fun _ _ e => e)
    have := tree_look hT P1.keyOk hk
    rw [ht', trPtr_some hy] at this
    exact this
  obtain ⟨c0, _, _, _, c4⟩ := past_cells P1.len P1.cells
  rw [ht'] at c4
  obtain ⟨k0, k1, k2, k3, k4, k5, k6⟩ := hK1.cells
  have HW1 := Lib.hid hW1
  have HB1 := Lib.hid hB1
  have HK1 := Lib.hid hK1
  have HP := Lib.hid h
  have HA := Lib.hid ha
  have HT := Lib.hid ht
  have HK := Lib.hid hk
  have HR := Lib.hid hr
  have HO := Lib.hid ho
  have HW := Lib.hid hW
  have HYM := Lib.hid hym
  have HYK := Lib.hid hyk
  clear hW1 hB1 hK1 h P1 ha ht ht' hy hk hr ho hW hym hyk
  go_enter Tryz.func49, Tryz.ntmps49
  go_wp2_with fail
  rw [← HW1.out]
  go_quiet (fail)
  revert nq; intro n1
  go_wp2_with fail
  obtain ⟨W2, hW2⟩ : ∃ W2, W2 = W1.drewN n1 := ⟨_, rfl⟩
  rw [← hW2]
  have hB2 : Below W1.heap.size W1 W2 := by rw [hW2]; exact below_drewN' (Below.refl _ _) _
  have hK2 := HK1.out.frame (Fr.new (F := fun _ => False) hB2) (fun e => e)
  have hs2 : w.heap.size < W2.heap.size := by have := hB2.size; omega
  have hBB2 := HB1.out.trans (hB2.mono (by omega))
  have P2 := HP.out.below hBB2
  have HK2 := Lib.hid hK2
  have HP2 := Lib.hid P2
  have HB2 := Lib.hid hBB2
  have T2 : TreeAt W2 y.tb (itemsK s.vs o.key) y.t y.mb := by have := P2.tree y HYM.out; rw [HYK.out] at this; exact this
  have HT2 := Lib.hid T2
  clear hW2 hB2 hBB2 hK2 P2 T2 c0 c4 k0 k1 k2 k3 k4 k5 k6 hlk
  refine (tmeets_any o.fr o.to W2 y.tb (itemsK s.vs o.key) y.t y.mb HT2.out (by have := items_len HP.out.ids o.key; omega)).mono ?_
  rintro e w3 ⟨v3, rfl, own3, b3⟩
  obtain ⟨ids, hids⟩ : ∃ ids, ids = hits s o := ⟨_, rfl⟩
  have own3' : w3.ownsRow W2.heap.size 3 1 v3 ids.length (ids.map (Value.int .i64)) := by rw [hids]; exact own3
  obtain ⟨ao, cap, rfl, hcs⟩ := ownsRow_intsB own3'
  have hlen : ids.length < 4000 := by
    have h1 := items_len HP.out.ids o.key
    have h2 := meetsL_length (itemsK s.vs o.key) o.fr o.to
    have h3 : ids.length = (meetsL (itemsK s.vs o.key) o.fr o.to).length := by rw [hids]; rfl
    omega
  have P3 := HP2.out.below b3
  have hK3 := HK2.out.frame (Fr.new (F := fun _ => False) b3) (fun e => e)
  have hs3 := b3.size
  have hlt0 : ∀ k, g.foot pb k → k < w.heap.size := HP.out.lt
  have hB3 : Below w.heap.size w w3 := HB2.out.trans (b3.mono (by omega))
  have hst : SLoop pb po R s g o w3 ids 0 g w3 := ⟨by simpa [sayAll] using P3, by simpa [sayAll, hids] using Say.start HW.out HR.out, HA.out, HT.out, Fr.refl _ _, Grows.refl _ _ _, Keeps.refl _⟩
  have HST := Lib.hid hst
  have HIDS := Lib.hid hids
  have HCS := Lib.hid hcs
  have HK3 := Lib.hid hK3
  have HB3 := Lib.hid hB3
  have HLT := Lib.hid hlt0
  clear own3 own3' b3 P3 hK3 hB3 hst hids hcs hlt0
  go_wp2_with fail
  go_loopw [26] (fun i wr => ∃ (k : Nat) (g' : Gh), k ≤ ids.length ∧ i = .int .i64 k ∧ SLoop pb po R s g o w3 ids k g' wr) (fun i _ => ids.length - (intOf i).toNat)
  case atStart => exact ⟨0, g, by omega, rfl, HST.out⟩
  case round =>
    obtain ⟨k, g', hk, rfl, hL⟩ := hrel
    obtain ⟨sk, hsk⟩ : ∃ sk, sk = sayAll o s (ids.take k) := ⟨_, rfl⟩
    have P := hL.at'
    have hS := hL.say
    rw [← hsk] at P hS
    have hnow := hS.now
    obtain ⟨cl, cr, hcl, hcr, hbud, _, _⟩ := hS.bud
    have hKw := HK3.out.frame hL.fr (fun e => by have := HLT.out _ e; omega)
    have hsw := hL.fr.size
    have HL := Lib.hid hL
    have HSK := Lib.hid hsk
    have HS := Lib.hid hS
    have HNOW := Lib.hid hnow
    have HPk := Lib.hid P
    have HKw := Lib.hid hKw
    obtain ⟨am, ham⟩ := Option.isSome_iff_exists.1 hL.am
    have HAM := Lib.hid ham
    by_cases hlt : k < ids.length
    · clear hL hsk hS hnow
      obtain ⟨id, hid⟩ : ∃ id, ids[k]? = some id := ⟨_, List.getElem?_eq_getElem hlt⟩
      obtain ⟨b, rfl, hbb, hc⟩ := HCS.out k id hid
      have hcw := HL.out.fr.cell hc (fun e => by have := HLT.out _ e; omega)
      have hdrop : ids.drop k = id :: ids.drop (k + 1) := by
        rw [List.drop_eq_getElem_cons hlt]
        congr 1
        rw [List.getElem?_eq_getElem hlt] at hid
        exact Option.some.inj hid
      have hS1 : Say s sk o (id :: ids.drop (k + 1)) := by rw [← hdrop]; exact HS.out
      obtain ⟨v, hv, hvid, hvk, hlo, hhi, hfind⟩ := hS1.found
      subst hvid
      obtain ⟨y', hym', hyk', hyb'⟩ := HL.out.kp y HYM.out
      have hyo : y'.key = o.key := hyk'.trans HYK.out
      have hrng := P.ids.rng v hv
      have hib : i64 v.id := ⟨by omega, by omega⟩
      have hvl : (Instr.lookup 24 (.map (some am)) (.int .i64 v.id) false).run Tryz.prog wr = .ok (.agg #[.int .i64 v.key.kind, .int .i64 v.key.a, .string v.key.word, .int .i64 v.key.b, .string v.val, .int .i64 v.bg, .int .i64 v.en]) wr := by
        have := P.vers
        rw [ham] at this
        exact ver_look this hv hib
      have hsn := sayAll_snoc o s ids k v.id hid
      rw [← HSK.out] at hsn
      have hst := hS1.step HR.out
      obtain ⟨c0, _, _, c3, _⟩ := past_cells P.len P.cells
      rw [ham] at c3
      obtain ⟨k0, k1, k2, k3, k4, k5, k6⟩ := hKw.cells
      have hwb : w.heap.size < wr.heap.size := by omega
      have hbw : b < wr.heap.size := World.block_lt_of_cell? wr _ hcw
      have HSN := Lib.hid hsn
      have HST2 := Lib.hid hst
      have HFIND := Lib.hid hfind
      have HV := Lib.hid hv
      have HVK := Lib.hid hvk
      have HYM' := Lib.hid hym'
      have HYO := Lib.hid hyo
      have HYB := Lib.hid hyb'
      have HIB := Lib.hid hib
      have HS1 := Lib.hid hS1
      clear hsn hst hfind hv hvk hym' hyo hyb' hyk' hib hS1 hdrop hid hc hrng P ham hKw
      by_cases hen : 0 < v.en
      · have hend : ∀ (W : World), Below wr.heap.size wr W → SLoop pb po R s g o w3 ids (k + 1) g' W := fun W hB => by
          have e : sayAll o s (ids.take (k + 1)) = sk := by rw [HSN.out]; exact sayId_skip HFIND.out hen
          refine ⟨by rw [e]; exact HPk.out.below hB, ?_, HL.out.am, HL.out.tm, HL.out.fr.trans (Fr.new hB), HL.out.gr, HL.out.kp⟩
          have := HST2.out
          rw [sayId_skip HFIND.out hen] at this
          rw [e]; exact this
        have HE := Lib.hid hend
        clear hend
        go_wp2_with fail
        go_roundw
        case rel => exact ⟨k + 1, g', by omega, by go_num, HE.out _ ((Below.refl _ _).alloc (Nat.le_refl _) _)⟩
        case measure => simp [intOf]; omega
      · have hen0 : decide (0 < v.en) = false := by simpa using hen
        have hve : v.en = 0 := (HS.out.wf.live HV.out).1 hen
        have hsc : sayId o sk v.id = cutV sk o v := sayId_cut HFIND.out hen
        have hcut : Cuts sk o v := by
          obtain ⟨u, u1, u2, u3, u4, u5, u6⟩ := HS1.out.found
          have : u = v := HS.out.wf.same u1 HV.out u2
          subst this
          exact ⟨u1, u3, hve, u4, u5⟩
        obtain ⟨W4, hW4⟩ : ∃ W4, W4 = wr.alloc (.cells #[.int .i64 v.key.kind, .int .i64 v.key.a, .string v.key.word, .int .i64 v.key.b, .string v.val, .int .i64 v.bg, .int .i64 v.en] 179) := ⟨_, rfl⟩
        have hB4 : Below wr.heap.size wr W4 := by rw [hW4]; exact (Below.refl _ _).alloc (Nat.le_refl _) _
        have hs4 : W4.heap.size = wr.heap.size + 1 := by rw [hW4]; simp
        have hv4 : W4.heap[wr.heap.size]? = some (.cells #[.int .i64 v.key.kind, .int .i64 v.key.a, .string v.key.word, .int .i64 v.key.b, .string v.val, .int .i64 v.bg, .int .i64 v.en] 179 (0, 0)) := by rw [hW4]; exact block_alloc_new wr _
        have hT4 : TreeAt W4 y.tb (itemsK sk.vs v.key) y'.t y'.mb := by
          have := (HPk.out.below hB4).tree y' HYM'.out
          rw [HYO.out, ← HVK.out, HYB.out] at this
          exact this
        have hmi : (v.fr, v.id, v.to) ∈ itemsK sk.vs v.key := mem_itemsK.2 ⟨v, HV.out, rfl, rfl⟩
        have HW4 := Lib.hid hW4
        have HB4 := Lib.hid hB4
        have HS4 := Lib.hid hs4
        have HV4 := Lib.hid hv4
        have HT4 := Lib.hid hT4
        have HMI := Lib.hid hmi
        have HSC := Lib.hid hsc
        have HCUT := Lib.hid hcut
        have HVE := Lib.hid hve
        clear hen hve hsc hcut hW4 hB4 hs4 hv4 hT4 hmi
        go_wp2_with fail
        rw [← HW4.out]
        refine (tspan_has v.id v.fr v.to HIB.out W4 y.tb (itemsK sk.vs v.key) y'.t y'.mb HT4.out HMI.out).mono ?_
        rintro e w5 ⟨rfl, b5⟩
        have hs5 := b5.size
        have HB5 := Lib.hid b5
        clear b5 c0 c3 k0 k1 k2 k3 k4 k5 k6 hvl
        go_wp2_with fail
        obtain ⟨W6, hW6⟩ : ∃ W6, W6 = w5.alloc (.cells #[.int .i64 v.fr, .int .i64 v.to] 68) := ⟨_, rfl⟩
        rw [← hW6]
        obtain ⟨vb, hvb⟩ : ∃ vb, vb = wr.heap.size := ⟨_, rfl⟩
        obtain ⟨sb, hsb⟩ : ∃ sb, sb = w5.heap.size := ⟨_, rfl⟩
        rw [← hvb, ← hsb]
        have hs6 : W6.heap.size = sb + 1 := by rw [hW6, hsb]; simp
        have hvs : vb < sb := by rw [hvb, hsb]; have := HS4.out; omega
        have hB6 : Below wr.heap.size wr W6 := by rw [hW6]; exact (HB4.out.trans (HB5.out.mono (by rw [HS4.out]; omega))).alloc (by have := HS4.out; omega) _
        have hX6 : VBox W6 w.heap.size vb sb o v v.en := by
          refine ⟨HKw.out.frame (Fr.new (F := fun _ => False) hB6) (fun e => e), ?_, ?_⟩
          · rw [hW6, hvb]
            refine block_alloc ?_ _
            exact (Fr.new (F := fun _ => False) HB5.out).keeps HV4.out (fun e => e)
          · rw [hW6, hsb]; exact block_alloc_new w5 _
        have P6 := HPk.out.below hB6
        obtain ⟨c0, _, _, c3, _⟩ := past_cells P6.len P6.cells
        rw [HAM.out] at c3
        obtain ⟨v0, v1, v2, v3, v4, v5, v6⟩ := hX6.vcells
        have HX6 := Lib.hid hX6
        have HP6 := Lib.hid P6
        have HS6 := Lib.hid hs6
        have HVB := Lib.hid hvb
        have HSB := Lib.hid hsb
        have HB6 := Lib.hid hB6
        clear hX6 P6 hs6 hvb hsb hB6 hW6
        have hno : ∀ j, g'.foot pb j → j ≠ w.heap.size ∧ j < vb := fun j hj => by
          refine ⟨fun e => ?_, by rw [HVB.out]; exact HPk.out.lt j hj⟩
          rcases HL.out.gr j hj with e1 | e1
          · have := HLT.out _ e1; omega
          · omega
        have hyf : ∀ j, y'.foot j → g'.foot pb j := fun j hj => .inr (.inr (.inr ⟨y', HYM'.out, hj⟩))
        obtain ⟨bs, hbs⟩ : ∃ bs, bs = (if v.bg = sk.now then dropV sk v.id else endV sk v.id) := ⟨_, rfl⟩
        have HNO := Lib.hid hno
        have HYF := Lib.hid hyf
        have HBS := Lib.hid hbs
        clear hno hyf hbs
        rcases Decidable.em (v.bg = sk.now) with hbg | hbg
        focus
          have hbq : (v.bg == sk.now) = true := by simpa using hbg
          have e1 : bs = dropV sk v.id := by rw [HBS.out, if_pos hbg]
          have E1 := Lib.hid e1
          clear hbg e1
          go_quiet (fail)
          revert nq; intro n2
          go_wp2_with fail
          obtain ⟨W7, hW7⟩ : ∃ W7, W7 = W6.drewN n2 := ⟨_, rfl⟩
          rw [← hW7]
          have hB7 : Below W6.heap.size W6 W7 := by rw [hW7]; exact below_drewN' (Below.refl _ _) _
          have P7 := HP6.out.below hB7
          have hX7 := HX6.out.frame (Fr.new (F := fun _ => False) hB7) (fun e => e) (fun e => e) (fun e => e)
          have T7 : TreeAt W7 y.tb ((v.fr, v.id, v.to) :: itemsK (dropV sk v.id).vs v.key) y'.t y'.mb := by
            have := P7.tree y' HYM'.out
            rw [HYO.out, ← HVK.out, HYB.out] at this
            exact this.perm' (items_drop HPk.out.ids.nod HV.out)
          have hs7 : W7.heap.size = sb + 1 := by rw [hW7]; exact HS6.out
          have HP7 := Lib.hid P7
          have HX7 := Lib.hid hX7
          have HT7 := Lib.hid T7
          have HB7 := Lib.hid hB7
          have HS7 := Lib.hid hs7
          clear hW7 hB7 P7 hX7 T7 hs7 c0 c3 v0 v1 v2 v3 v4 v5 v6
          refine (tdrop_ok v.id v.fr v.to HIB.out W7 y.tb (itemsK (dropV sk v.id).vs v.key) y'.t y'.mb HT7.out (by have := items_len (HPk.out.ids.drop v.id) v.key; have : (dropV sk v.id).next = sk.next := rfl; omega)).mono ?_
          rintro e w8 ⟨t8, m8, rfl, T8, F8, G8⟩
          have F8' : Fr y'.foot W7 w8 := by unfold Tr.foot; rw [HYB.out]; exact F8
          have T8' : TreeAt w8 y'.tb (itemsK (dropV sk v.id).vs v.key) t8 m8 := by rw [HYB.out]; exact T8
          have G8' : ∀ j, Go.Proofs.YtflhpmgjehjjkaaGreatDoor.foot y'.tb t8 m8 j → y'.foot j := fun j hj => by unfold Tr.foot; rw [HYB.out] at hj ⊢; exact G8 j hj
          have hc8 := F8'.keeps HP7.out.cells (fun e => (HP7.out.ne y' HYM'.out pb e).1 rfl)
          have hX8 := HX7.out.frame F8' (fun e => (HNO.out _ (HYF.out _ e)).1 rfl) (fun e => by have := (HNO.out _ (HYF.out _ e)).2; omega) (fun e => by have := (HNO.out _ (HYF.out _ e)).2; omega)
          have hv8 := HP7.out.vers.frame F8' (fun j e e' => (HP7.out.ne y' HYM'.out j e').2.1 e)
          rw [HAM.out] at hv8
          obtain ⟨D, hown, hD⟩ := hv8
          have hs8 := F8'.size
          have HT8 := Lib.hid T8'
          have HF8 := Lib.hid F8'
          have HG8 := Lib.hid G8'
          have HD := Lib.hid hD
          have HX8 := Lib.hid hX8
          have HS8 := Lib.hid hs8
          obtain ⟨_, _, _, c3, _⟩ := past_cells HP7.out.len hc8
          rw [HAM.out] at c3
          have hamb := HPk.out.lt am (.inr (.inl HAM.out))
          have hamo := HNO.out am (.inr (.inl HAM.out))
          have HAMB := Lib.hid (And.intro hamb hamo)
          clear T8 F8 G8 F8' T8' G8' hD hX8 hs8 hc8 hamb hamo
          go_wp2_with (at_delete; refine wpList_delete_own _ rfl _ _ 24 3 rfl 179 intLaw Tryz.underlying24 verR am sk.vs.length D rfl hown _ _ rfl (keyOf_int_mk Tryz.underlying3 (wfI HIB.out)) ?_; intro w9 hown9 hturn9; have F9 : Fr (· = am) w8 w9 := Fr.ofGrown hturn9.grown; obtain ⟨g9, P9, a9, t9, F9', G9, K9⟩ := past_drop HP7.out HAM.out HYM'.out (HYO.out.trans HVK.out.symm) HV.out HT8.out HF8.out HG8.out HD.out hown9 F9; have hX9 := HX8.out.toT.frame F9 (fun e => HAMB.out.2.1 e.symm) (fun e => by have := HAMB.out.2.2; omega) (fun e => by have := HAMB.out.2.2; omega); have hs9 := F9.size; have HP9 := Lib.hid P9; have HA9 := Lib.hid a9; have HT9 := Lib.hid t9; have HF9 := Lib.hid F9'; have HG9 := Lib.hid G9; have HK9 := Lib.hid K9; have HX9 := Lib.hid hX9; have HS9 := Lib.hid hs9; obtain ⟨_, _, _, _, k4, k5, _⟩ := hX9.op.cells; obtain ⟨q0, q1⟩ := cells2 hX9.span; clear hown9 hturn9 F9 P9 a9 t9 F9' G9 K9 hX9 hs9 c3)
          have hmid : Mid pb po R g o v w3 w.heap.size vb sb bs g9 w9 := mid_of HL.out (HB6.out.trans (HB7.out.mono (by have := HS6.out; have := HVB.out; omega))) (by rw [E1.out]; exact HP9.out) HA9.out HT9.out HF9.out HG9.out HK9.out HX9.out HNO.out (by have := HS9.out; have := HS8.out; have := HS7.out; omega)
          have HM := Lib.hid hmid
          clear hmid
        rotate_left
        focus
          have hbq : (v.bg == sk.now) = false := by simpa using hbg
          have e1 : bs = endV sk v.id := by rw [HBS.out, if_neg hbg]
          have E1 := Lib.hid e1
          clear hbg e1
          have f6 : W6.frozen? ⟨vb, 6, none⟩ = false := block_free HX6.out.ver 6
          have hvl6 : vb < W6.heap.size := by have := HS6.out; omega
          go_quiet (fail)
          revert nq; intro n2
          go_wp2_with fail
          obtain ⟨W8, hW8⟩ : ∃ W8, W8 = (W6.drewN n2).setCell ⟨vb, 6, none⟩ (.int .i64 sk.now) := ⟨_, rfl⟩
          rw [← hW8]
          have hF8 : Fr (· = vb) W6 W8 := by rw [hW8]; exact Fr.setCell (F := (· = vb)) (Fr.drewN (Fr.refl _ W6) n2) (p := ⟨vb, 6, none⟩) (fun _ => rfl) _
          have hX8 : VBox W8 w.heap.size vb sb o v sk.now := by
            have hv := HX6.out.ver
            refine ⟨HX6.out.op.frame hF8 (fun e => by have := HVB.out; omega), ?_, hF8.keeps HX6.out.span (fun e => by omega)⟩
            rw [hW8]
            exact block_set (w := W6.drewN n2) hv 6 (.int .i64 sk.now)
          have P8 := HP6.out.frame hF8 (fun j hj e => by have := (HNO.out j hj).2; omega)
          have hs8 : W8.heap.size = sb + 1 := by rw [hW8]; simpa using HS6.out
          have hB8 : Below wr.heap.size wr W8 := HB6.out.trans (hF8.below (B := wr.heap.size) (fun j _ e => by rw [e, HVB.out]; exact Nat.le_refl _) (by have := HS6.out; have := HVB.out; omega))
          have hv8 := P8.vers
          rw [HAM.out] at hv8
          obtain ⟨D, hown, hD⟩ := hv8
          have HP8 := Lib.hid P8
          have HX8 := Lib.hid hX8
          have HB8 := Lib.hid hB8
          have HS8 := Lib.hid hs8
          have HD := Lib.hid hD
          clear c0 c3 v0 v1 v2 v3 v4 v5 v6 f6
          obtain ⟨_, _, _, c3, _⟩ := past_cells P8.len P8.cells
          rw [HAM.out] at c3
          obtain ⟨v0, v1, v2, v3, v4, v5, v6⟩ := hX8.vcells
          have hamo := HNO.out am (.inr (.inl HAM.out))
          have hl := HPk.out.ids.len
          have HAMB := Lib.hid hamo
          clear hW8 hF8 hX8 P8 hs8 hB8 hD hamo hvl6
          refine wp_region_tail 6 (by kernel_rfl) (by kernel_rfl) ?_
          simp only [List.take_succ_cons, List.take_zero, List.drop_succ_cons, List.drop_zero]
          repeat still_step
          refine wpStill_nil ?_
          go_wp2_with (at_mapUpdate; refine wpList_mapUpdate_own _ rfl _ _ _ 24 rfl 3 179 intLaw Tryz.underlying24 verR am sk.vs.length D rfl (World.ownsMap.drew hown) (by unfold maxLen; omega) _ _ _ rfl rfl (keyOf_int_mk Tryz.underlying3 (wfI HIB.out)) (verD { v with en := sk.now }) [] rfl ?_; intro w9 hown9 hgrow9; have F9 : Fr (· = am) W8 w9 := (Fr.drew (Fr.refl _ W8)).trans (Fr.ofGrown hgrow9); obtain ⟨P9, F9'⟩ := past_end HP8.out HAM.out HV.out HD.out hown9 F9; have hX9 := HX8.out.toT.frame F9 (fun e => HAMB.out.1 e.symm) (fun e => by have := HAMB.out.2; omega) (fun e => by have := HAMB.out.2; omega); have hs9 := F9.size; have HP9 := Lib.hid P9; have HF9 := Lib.hid F9'; have HX9 := Lib.hid hX9; have HS9 := Lib.hid hs9; obtain ⟨_, _, _, _, k4, k5, _⟩ := hX9.op.cells; obtain ⟨q0, q1⟩ := cells2 hX9.span; clear hown9 hgrow9 F9 P9 F9' hX9 hs9 c3 v0 v1 v2 v3 v4 v5 v6)
          obtain ⟨g9, hg9⟩ : ∃ g9, g9 = g' := ⟨_, rfl⟩
          have hmid : Mid pb po R g o v w3 w.heap.size vb sb bs g9 w9 := by
            rw [hg9]
            exact mid_of HL.out HB8.out (by rw [E1.out]; exact HP9.out) rfl rfl HF9.out (fun _ e => e) (Keeps.refl _) HX9.out HNO.out (by have := HS9.out; have := HS8.out; omega)
          have HM := Lib.hid hmid
          clear hmid
        all_goals
          clear k4 k5 q0 q1
          have hm := HM.out
          refine (less_any v.fr v.to o.fr o.to w9).mono ?_
          rintro e w10 ⟨v10, rfl, own10, b10⟩
          obtain ⟨parts, hparts⟩ : ∃ parts, parts = lessL v.fr v.to o.fr o.to := ⟨_, rfl⟩
          rw [← hparts] at own10
          obtain ⟨ao2, cap2, rfl, hps⟩ := ownsRow_spansB own10
          have P10 := hm.at'.below b10
          have hX10 := hm.box.frame (Fr.new (F := fun _ => False) b10) (fun e => e) (fun e => e) (fun e => e)
          have hs10 := b10.size
          have hI0 : ILoop pb po R bs g9 o.key v.val parts w10 0 g9 w10 := ⟨by simpa [addAll] using P10, hm.am, hm.tm, Fr.refl _ _, Grows.refl _ _ _, Keeps.refl _⟩
          have hbs : cutV sk o v = addAll bs o.key v.val parts := by rw [hparts, HBS.out]; rfl
          have hpr : ∀ p ∈ parts, rightB p.1 p.2 = true := by
            have := (cut_parts HS.out.wf HCUT.out HR.out).right
            rw [← hparts] at this; exact this
          have hpl : parts.length ≤ 2 := by rw [hparts]; exact lessL_le _ _ _ _
          have hbn : (addAll bs o.key v.val parts).next ≤ s.next + 2 := by
            obtain ⟨x1, x2, x3, x4, x5, _, _⟩ := HST2.out.bud
            rw [HSC.out, hbs] at x5
            omega
          rw [addAll_next] at hbn
          have hlt9 : ∀ j, g9.foot pb j → j < w9.heap.size := hm.at'.lt
          have hs9' := hm.size
          have hfr10 : Fr (g.foot pb) w3 w10 := hm.fr.trans (Fr.new b10)
          have HI0 := Lib.hid hI0
          have HBN := Lib.hid hbs
          have HPR := Lib.hid hpr
          have HX10 := Lib.hid hX10
          have HPS := Lib.hid hps
          have HLT9 := Lib.hid hlt9
          have HFR10 := Lib.hid hfr10
          have HPARTS := Lib.hid hparts
          have hno9 := hm.no
          have HNO9 := Lib.hid hno9
          clear own10 b10 P10 hX10 hI0 hbs hpr hps hlt9 hfr10 hparts hno9 hm
          go_wp2_with fail
          obtain ⟨wo, rfl⟩ : ∃ wo : World, wo = wr := ⟨_, rfl⟩
          go_loopw [76] (fun i wi => ∃ (j : Nat) (gi : Gh), j ≤ parts.length ∧ i = .int .i64 j ∧ ILoop pb po R bs g9 o.key v.val parts w10 j gi wi) (fun i _ => parts.length - (intOf i).toNat)
          case atStart => exact ⟨0, g9, by omega, rfl, HI0.out⟩
          case round =>
            obtain ⟨j, gi, hj, rfl, hIL⟩ := hrel
            have HIL := Lib.hid hIL
            clear hIL
            by_cases hjl : j < parts.length
            · obtain ⟨x1, x2, hx⟩ : ∃ x1 x2, parts[j]? = some (x1, x2) := ⟨parts[j].1, parts[j].2, List.getElem?_eq_getElem hjl⟩
              obtain ⟨b2, rfl, hb2, d0, d1⟩ := HPS.out j x1 x2 hx
              have d0 := HIL.out.fr.cell d0 (fun e => by have := HLT9.out _ e; omega)
              have d1 := HIL.out.fr.cell d1 (fun e => by have := HLT9.out _ e; omega)
              have hb2w : b2 < wr.heap.size := World.block_lt_of_cell? wr _ d0
              have hrx : rightB x1 x2 = true := HPR.out (x1, x2) (List.mem_of_getElem? hx)
              have hsx := addAll_snoc bs o.key v.val parts j x1 x2 hx
              have HRX := Lib.hid hrx
              have HSX := Lib.hid hsx
              clear hrx hsx hx
              go_wp2_with fail
              obtain ⟨W11, hW11⟩ : ∃ W11, W11 = wr.alloc (.cells #[.int .i64 x1, .int .i64 x2] 68) := ⟨_, rfl⟩
              rw [← hW11]
              have hB11 : Below wr.heap.size wr W11 := by rw [hW11]; exact (Below.refl _ _).alloc (Nat.le_refl _) _
              have hxb : W11.heap[wr.heap.size]? = some (.cells #[.int .i64 x1, .int .i64 x2] 68 (0, 0)) := by rw [hW11]; exact block_alloc_new wr _
              have P11 := HIL.out.at'.below hB11
              have hX11 := (HX10.out.frame HIL.out.fr (fun e => (HNO9.out _ e).1 rfl) (fun e => by have := (HNO9.out _ e).2; omega) (fun e => by have := (HNO9.out _ e).2; omega)).frame (Fr.new (F := fun _ => False) hB11) (fun e => e) (fun e => e) (fun e => e)
              have F11 : Fr (g9.foot pb) w10 W11.drew := (HIL.out.fr.trans (Fr.new hB11)).drew
              have HP11 := Lib.hid P11
              have HF11 := Lib.hid F11
              obtain ⟨c0, _, _, _, _⟩ := past_cells P11.len P11.cells
              obtain ⟨k0, k1, k2, k3, _, _, _⟩ := hX11.op.cells
              obtain ⟨y0, y1⟩ := cells2 hxb
              have v4 := hX11.val
              have hnx : (addAll bs o.key v.val (parts.take j)).next < 4000 := by
                rw [addAll_next, List.length_take]
                omega
              clear hW11 hB11 hxb P11 hX11 F11 d0 d1
              refine wp_region_tail 10 (by kernel_rfl) (by kernel_rfl) ?_
              simp only [List.take_succ_cons, List.take_zero, List.drop_succ_cons, List.drop_zero]
              repeat still_step
              refine wpStill_nil ?_
              go_wp2_with fail
              refine (padd_any o.key x1 x2 v.val pb po R _ gi W11.drew (HP11.out.below (Below.refl _ W11).drew) HIL.out.am HIL.out.tm HK.out HRX.out hnx).mono ?_
              rintro e w12 ⟨g12, rfl, P12, a12, t12, F12, G12, K12⟩
              have hI : ILoop pb po R bs g9 o.key v.val parts w10 (j + 1) g12 w12 := ⟨by rw [HSX.out]; exact P12, a12, t12, HF11.out.past F12 HIL.out.gr, HIL.out.gr.trans G12 HF11.out.size, HIL.out.kp.trans K12⟩
              have HI := Lib.hid hI
              clear P12 a12 t12 F12 G12 K12 hI c0 k0 k1 k2 k3 y0 y1 v4 hnx
              go_wp2_with fail
              go_roundw
              case rel => exact ⟨j + 1, g12, by omega, by go_num, HI.out⟩
              case measure => simp [intOf]; omega
            · have hje : parts.take j = parts := List.take_of_length_le (by omega)
              have e2 : sayAll o s (ids.take (k + 1)) = addAll bs o.key v.val (parts.take j) := by rw [HSN.out, HSC.out, HBN.out, hje]
              have hend : SLoop pb po R s g o w3 ids (k + 1) gi wr := by
                refine ⟨by rw [e2]; exact HIL.out.at', ?_, HIL.out.am, HIL.out.tm, HFR10.out.past HIL.out.fr HM.out.gr, HM.out.gr.trans HIL.out.gr HFR10.out.size, HM.out.kp.trans HIL.out.kp⟩
                have := HST2.out
                rw [← HSN.out] at this
                exact this
              have HE := Lib.hid hend
              clear hje e2 hend
              go_wp2_with fail
              go_roundw
              case rel => exact ⟨k + 1, gi, by omega, by go_num, HE.out⟩
              case measure => simp [intOf]; omega
    · clear hL hsk hS hnow
      have hkl : k = ids.length := by omega
      have hsa : sk = sayAll o s (hits s o) := by rw [HSK.out, hkl, List.take_of_length_le (Nat.le_refl _), HIDS.out]
      have HSA := Lib.hid hsa
      obtain ⟨c0, _, _, _, _⟩ := past_cells P.len P.cells
      obtain ⟨k0, k1, k2, k3, k4, k5, k6⟩ := hKw.cells
      have hfr : Fr (g.foot pb) w wr := (Fr.new HB3.out).trans HL.out.fr
      have hgr : Grows g g' pb w := fun j hj => by
        rcases HL.out.gr j hj with e | e
        · exact .inl e
        · exact .inr (by have := HB3.out.size; omega)
      have HFR := Lib.hid hfr
      have HGR := Lib.hid hgr
      clear hsa hkl P hKw ham hfr hgr
      by_cases h0 : o.value.size = 0
      · have hs : sayO o s = sk := by unfold sayO; rw [if_pos h0, HSA.out]
        have hv1 := empty_true h0
        have hv2 : (!o.value.toList.isEmpty) = false := by rw [hv1]; rfl
        have HE : Hid (Begun pb po R (sayO o s) g w (.returned (.tuple #[])) wr) := Lib.hid ⟨g', rfl, by rw [hs]; exact HPk.out, HL.out.am, HL.out.tm, HFR.out, HGR.out, HL.out.kp⟩
        clear hs h0
        go_wp2_with fail
        refine bodyPost_end (results_none rfl _ _ _) rfl ?_
        exact HE.out
      · have hs : sayO o s = addV sk o.key o.fr o.to o.value := by unfold sayO; rw [if_neg h0, HSA.out]
        have hv1 := empty_false h0
        have hv2 : (!o.value.toList.isEmpty) = true := by rw [hv1]; rfl
        have HS' := Lib.hid hs
        clear hs h0
        go_wp2_with fail
        refine wp_region_tail 11 (by kernel_rfl) (by kernel_rfl) ?_
        simp only [List.take_succ_cons, List.take_zero, List.drop_succ_cons, List.drop_zero]
        repeat still_step
        refine wpStill_nil ?_
        go_wp2_with fail
        refine (padd_any o.key o.fr o.to o.value pb po R sk g' wr.drew (HPk.out.below (Below.refl _ wr).drew) HL.out.am HL.out.tm HK.out HR.out (by omega)).mono ?_
        intro e w4 hb4
        have hend := begun_step hb4 HFR.out.drew HGR.out HL.out.kp
        rw [← HS'.out] at hend
        have HE := Lib.hid hend
        have he : e = .returned (.tuple #[]) := hb4.choose_spec.1
        subst he
        clear hb4 hend
        go_wp2_with fail
        refine bodyPost_end (results_none rfl _ _ _) rfl ?_
        exact HE.out
end Go.Proofs.YtflhpmgjehjjkaaGreatDoor

namespace Go.Proofs.YtflhpmgjehjjkaaGreatDoor
open Go.RowKit Go.Deep Go.Shelf Go.Sort Go.Maps

theorem psays_any (o : OpP) (pb po : Nat) (R : Rest) (s : Pst) (g : Gh) (w : World) (h : PastAt w pb po R s g) (hW : Wf s) (ha : g.am.isSome = true) (ht : g.tm.isSome = true) (ho : opB o = true) (hn0 : 1 ≤ s.now) (hn1 : s.now ≤ 150) (hn : s.next + 3 ≤ 4000) :
    Calls Tryz.prog 49 #[.pointer (some ⟨pb, po, none⟩), .agg #[.int .i64 o.key.kind, .int .i64 o.key.a, .string o.key.word, .int .i64 o.key.b, .int .i64 o.fr, .int .i64 o.to, .string o.value]] w (Begun pb po R (sayO o s) g w) := by
  cases hy : treeFor g.ts o.key with
  | none => exact psays_none o pb po R s g w h ha ht ho hn hy
  | some y => exact psays_some o pb po R s g y w h hW ha ht ho hn0 hn1 hn hy

/-- All is well with a list of changes. -/
def okL (l : List OpP) : Bool := lenB l && l.all opB
theorem okL_iff {l : List OpP} : okL l = true ↔ (1 ≤ l.length ∧ l.length ≤ 8) ∧ l.all opB = true := by unfold okL lenB; simp
theorem okL_write {l : List OpP} (h : okL l = true) : writeR l = (writeT l, 0, -1) := by
  have := okL_iff.1 h
  exact writeR_good (by unfold lenB; simpa using this.1) this.2
theorem okL_not {l : List OpP} (h : okL l = false) : (writeR l).2.1 ≠ 0 := by
  unfold okL at h
  cases h1 : lenB l with
  | false => rw [writeR_len h1]; decide
  | true =>
    rw [h1, Bool.true_and] at h
    unfold writeR
    rw [if_pos h1, if_neg (by rw [h]; decide)]
    show (1 : Int) ≠ 0
    decide
def PDone (v : Value) (pb po : Nat) (R : Rest) (s : Pst) (g : Gh) (w : World) (e : Ending) (w' : World) : Prop :=
  ∃ g', e = .returned v ∧ PastAt w' pb po R s g' ∧ Fr (g.foot pb) w w' ∧ Grows g g' pb w
structure CLoop (pb po : Nat) (R : Rest) (s : Pst) (g : Gh) (l : List OpP) (w : World) (k : Nat) (g' : Gh) (wr : World) : Prop where
  at' : PastAt wr pb po R ((l.take k).foldl (fun s o => sayO o s) (beginP s)) g'
  wf : Wf ((l.take k).foldl (fun s o => sayO o s) (beginP s))
  next : ((l.take k).foldl (fun s o => sayO o s) (beginP s)).next ≤ s.next + 3 * k
  now : ((l.take k).foldl (fun s o => sayO o s) (beginP s)).now = s.now + 1
  am : g'.am.isSome = true
  tm : g'.tm.isSome = true
  fr : Fr (g.foot pb) w wr
  gr : Grows g g' pb w
theorem fold_snoc {l : List OpP} {k : Nat} {o : OpP} (h : l[k]? = some o) (s : Pst) : (l.take (k + 1)).foldl (fun s o => sayO o s) s = sayO o ((l.take k).foldl (fun s o => sayO o s) s) := by
  rw [List.take_succ_eq_append_getElem (List.getElem?_eq_some_iff.1 h).1, List.foldl_append, (List.getElem?_eq_some_iff.1 h).2]; rfl
/-- The list's own block is none of the past's. -/
def SepOps (ao : Option Addr) (g : Gh) (pb : Nat) : Prop := ∀ b f, ao = some ⟨b, f, none⟩ → ¬ g.foot pb b

set_option maxRecDepth 100000 in
set_option maxHeartbeats 4000000 in
theorem pcommit_ok (ao : Option Addr) (c : Nat) (l : List OpP) (pb po : Nat) (R : Rest) (s : Pst) (g : Gh) (w : World) (h : PastAt w pb po R s g) (hW : Wf s) (hl : opsAt w ao l) (hsep : SepOps ao g pb) (hg : PowTab w) (hok : okL l = true) (hn1 : s.now < 150) (hn : s.next + 24 ≤ 4000) :
    Calls Tryz.prog 9 #[.pointer (some ⟨pb, po, none⟩), .slice ao l.length c] w (PDone .nilIface pb po R (commitP l s) g w) := by
  obtain ⟨hlen, hall⟩ := okL_iff.1 hok
  have hwr := okL_write hok
  have hsz : ∀ o ∈ l, o.key.word.size ≤ 100000 ∧ o.value.size ≤ 100000 := fun o ho => by
    have h1 := List.all_eq_true.1 hall o ho
    have h2 := (wfkey (op_key h1)).2
    rcases op_value h1 with h3 | h3
    · omega
    · unfold wordB at h3; simp at h3; omega
  have hm : l.length ≤ maxLen := by unfold maxLen; omega
  have hfw := fwrite_any ao c l w hl hm hsz hg
  rw [hwr] at hfw
  have HFW := Lib.hid hfw
  have HP := Lib.hid h
  have HW := Lib.hid hW
  have HL := Lib.hid hl
  have HSEP := Lib.hid hsep
  have HALL := Lib.hid hall
  have hn0 := hW.now0
  clear h hW hl hsep hg hok hall hwr hsz hm hfw
  go_enter Tryz.func9, Tryz.ntmps9
  go_wp2_with fail
  refine HFW.out.mono ?_
  rintro e w1 ⟨⟨v, rfl, _, hnil⟩, b1⟩
  have hv : v = .nilIface := by
    rcases hnil with h | h
    · exact h.1
    · exact absurd rfl h.2
  subst hv
  have P1 := HP.out.below b1
  have HP1 := Lib.hid P1
  have HB1 := Lib.hid b1
  obtain ⟨c0, _, _, _, _⟩ := past_cells P1.len P1.cells
  clear b1 P1 hnil
  go_wp2_with fail
  refine (pbegin_any pb po R s g w1 HP1.out).mono ?_
  rintro e w2 ⟨g2, rfl, P2, a2, t2, F2, G2, _⟩
  clear c0
  obtain ⟨c0, _, _, _, _⟩ := past_cells P2.len P2.cells
  have f0 := past_free P2.cells po
  have hpb2 := lt_of_block P2.cells
  have hF2 : Fr (g.foot pb) w w2 := (Fr.new HB1.out).trans F2
  have hG2 : Grows g g2 pb w := fun j hj => by
    rcases G2 j hj with e | e
    · exact .inl e
    · exact .inr (by have := HB1.out.size; omega)
  obtain ⟨P3, F3⟩ := PastI.place (s' := beginP s) (i := po) (v := .int .i64 (s.now + 1)) P2.toPastI (by rw [pcells_set0 P2.len]; rfl) ⟨P2.ids.nod, P2.ids.rng, P2.ids.key, P2.ids.next0, P2.ids.len⟩ rfl
  have hst : CLoop pb po R s g l w 0 g2 (w2.setCell ⟨pb, po, none⟩ (.int .i64 (s.now + 1))) := ⟨⟨P3, P2.tlen⟩, HW.out.begin, by simp [beginP], by simp [beginP], a2, t2, hF2.past F3 hG2, hG2⟩
  have HST := Lib.hid hst
  clear P2 a2 t2 F2 G2 hF2 hG2 P3 F3 hst
  go_wp2_with fail
  go_loopw [34] (fun i wr => ∃ (k : Nat) (g' : Gh), k ≤ l.length ∧ i = .int .i64 k ∧ CLoop pb po R s g l w k g' wr) (fun i _ => l.length - (intOf i).toNat)
  case atStart => exact ⟨0, g2, by omega, rfl, HST.out⟩
  case round =>
    obtain ⟨k, g', hk, rfl, hL⟩ := hrel
    have HCL := Lib.hid hL
    clear hL c0 f0
    by_cases hlt : k < l.length
    · obtain ⟨o, ho⟩ : ∃ o, l[k]? = some o := ⟨_, List.getElem?_eq_getElem hlt⟩
      obtain ⟨b, f, rfl, hcs⟩ := HL.out k o ho
      have hnb := HSEP.out b f rfl
      have q : ∀ j u, (opCells o)[j]? = some u → wr.cell? ⟨b, f + k * 7 + j, none⟩ = some u := fun j u hj => HCL.out.fr.cell (hcs j u hj) hnb
      have q0 := q 0 _ rfl
      have q1 := q 1 _ rfl
      have q2 := q 2 _ rfl
      have q3 := q 3 _ rfl
      have q4 := q 4 _ rfl
      have q5 := q 5 _ rfl
      have q6 := q 6 _ rfl
      rw [Nat.add_zero] at q0
      have hbw : b < wr.heap.size := World.block_lt_of_cell? wr _ q0
      have hob : opB o = true := List.all_eq_true.1 HALL.out o (List.mem_of_getElem? ho)
      have HO := Lib.hid hob
      have HOK := Lib.hid ho
      have hnx := HCL.out.next
      have hnw := HCL.out.now
      have HNX := Lib.hid (show ((l.take k).foldl (fun s o => sayO o s) (beginP s)).next + 3 ≤ 4000 by omega)
      have HNW := Lib.hid hnw
      clear q hcs hob ho hnx hnw
      go_wp2_with fail
      have hcall : ∀ W, Below wr.heap.size wr W → Calls Tryz.prog 49 #[.pointer (some ⟨pb, po, none⟩), .agg #[.int .i64 o.key.kind, .int .i64 o.key.a, .string o.key.word, .int .i64 o.key.b, .int .i64 o.fr, .int .i64 o.to, .string o.value]] W (Begun pb po R (sayO o ((l.take k).foldl (fun s o => sayO o s) (beginP s))) g' W) := fun W hB =>
        psays_any o pb po R _ g' W (HCL.out.at'.below hB) HCL.out.wf HCL.out.am HCL.out.tm HO.out (by rw [HNW.out]; omega) (by rw [HNW.out]; omega) HNX.out
      refine (hcall _ ((Below.refl _ _).alloc (Nat.le_refl _) _)).mono ?_
      rintro e w4 ⟨g4, rfl, P4, a4, t4, F4, G4, _⟩
      have hsd := said_one HCL.out.wf HO.out (by rw [HNW.out]; omega)
      have hfs := fold_snoc HOK.out (beginP s)
      have hfr : Fr (g.foot pb) w w4 := (HCL.out.fr.alloc _).past F4 HCL.out.gr
      have hnew : CLoop pb po R s g l w (k + 1) g4 w4 := by
        refine ⟨by rw [hfs]; exact P4, by rw [hfs]; exact hsd.wf, ?_, by rw [hfs, hsd.now]; exact HNW.out, a4, t4, hfr, HCL.out.gr.trans G4 (HCL.out.fr.alloc _).size⟩
        rw [hfs]
        have h1 := hsd.next
        have h2 := HCL.out.next
        omega
      have HNEW := Lib.hid hnew
      clear P4 a4 t4 F4 G4 hsd hfs hfr hnew q0 q1 q2 q3 q4 q5 q6
      go_wp2_with fail
      go_roundw
      case rel => exact ⟨k + 1, g4, by omega, by go_num, HNEW.out⟩
      case measure => simp [intOf]; omega
    · have hkl : l.take k = l := List.take_of_length_le (by omega)
      have hend : PDone .nilIface pb po R (commitP l s) g w (.returned .nilIface) wr := by
        have h1 := HCL.out.at'
        rw [hkl] at h1
        exact ⟨g', rfl, h1, HCL.out.fr, HCL.out.gr⟩
      have HE := Lib.hid hend
      clear hkl hend
      go_wp2_with fail
      go_ret
      exact HE.out
end Go.Proofs.YtflhpmgjehjjkaaGreatDoor

namespace Go.Proofs.YtflhpmgjehjjkaaGreatDoor
open Go.RowKit Go.Deep Go.Shelf Go.Sort Go.Maps

/-- What Value answers: the error; the value. -/
def valE (s : Pst) (k : KeyP) (a t : Int) : Int := if askE s a ≠ 0 then askE s a else if keyB k && timeB t then 0 else 1
def valV (s : Pst) (k : KeyP) (a t : Int) : Value := .tuple #[.string (if valE s k a t = 0 then valueP s.vs k a t else ⟨#[]⟩), errN (valE s k a t)]
theorem valV_ask {s : Pst} {k : KeyP} {a t : Int} (h : askE s a ≠ 0) : valV s k a t = .tuple #[.string ⟨#[]⟩, errV (askE s a)] := by
  have : valE s k a t = askE s a := by unfold valE; rw [if_pos h]
  unfold valV; rw [this, if_neg h, errN_ne h]
theorem valV_arg {s : Pst} {k : KeyP} {a t : Int} (h : askE s a = 0) (hb : (keyB k && timeB t) = false) : valV s k a t = .tuple #[.string ⟨#[]⟩, errV 1] := by
  have : valE s k a t = 1 := by unfold valE; rw [if_neg (by simpa using h), if_neg (by rw [hb]; decide)]
  unfold valV; rw [this]; rfl
theorem valV_ok {s : Pst} {k : KeyP} {a t : Int} (h : askE s a = 0) (hk : keyB k = true) (ht : timeB t = true) : valV s k a t = .tuple #[.string (valueP s.vs k a t), .nilIface] := by
  have : valE s k a t = 0 := by unfold valE; rw [if_neg (by simpa using h), if_pos (by rw [hk, ht]; rfl)]
  unfold valV; rw [this]; rfl

set_option maxRecDepth 100000 in
set_option maxHeartbeats 2000000 in
theorem pvalue_ask (k : KeyP) (a t : Int) (pb po : Nat) (R : Rest) (s : Pst) (g : Gh) (w : World) (h : PastAt w pb po R s g) (ha : askE s a ≠ 0) :
    Calls Tryz.prog 51 #[.pointer (some ⟨pb, po, none⟩), .agg #[.int .i64 k.kind, .int .i64 k.a, .string k.word, .int .i64 k.b], .int .i64 a, .int .i64 t] w fun e w' => e = .returned (.tuple #[.string ⟨#[]⟩, errV (askE s a)]) ∧ Below w.heap.size w w' := by
  have hR := fun W (hB : Below w.heap.size w W) => pright_any pb po R s g a W (h.below hB)
  rw [errN_ne ha] at hR
  obtain ⟨n, hn⟩ : ∃ n, n = askE s a := ⟨_, rfl⟩
  rw [← hn] at hR ⊢
  unfold errV at *
  have HR := Lib.hid hR
  clear hR hn ha h
  go_enter Tryz.func51, Tryz.ntmps51
  go_wp2_with fail
  refine (HR.out _ ((Below.refl _ _).alloc (Nat.le_refl _) _)).mono ?_
  rintro e w1 ⟨rfl, rfl⟩
  go_wp2_with fail
  go_ret2
  exact ⟨rfl, (Below.refl _ _).alloc (Nat.le_refl _) _⟩

set_option maxRecDepth 100000 in
set_option maxHeartbeats 2000000 in
theorem pvalue_arg (k : KeyP) (a t : Int) (pb po : Nat) (R : Rest) (s : Pst) (g : Gh) (w : World) (h : PastAt w pb po R s g) (hs : k.word.size ≤ maxLen) (ha : askE s a = 0) (hb : (keyB k && timeB t) = false) :
    Calls Tryz.prog 51 #[.pointer (some ⟨pb, po, none⟩), .agg #[.int .i64 k.kind, .int .i64 k.a, .string k.word, .int .i64 k.b], .int .i64 a, .int .i64 t] w fun e w' => e = .returned (.tuple #[.string ⟨#[]⟩, errV 1]) ∧ Below w.heap.size w w' := by
  have hR := fun W (hB : Below w.heap.size w W) => pright_any pb po R s g a W (h.below hB)
  rw [ha, errN_0] at hR
  have HR := Lib.hid hR
  have hK := fun W => fkey_any k.kind k.a k.b k.word W hs
  rw [show (⟨k.kind, k.a, k.word, k.b⟩ : KeyP) = k from rfl] at hK
  unfold errV
  clear hR ha h hs
  cases hk : keyB k
  · rw [hk] at hK
    have HK := Lib.hid hK
    clear hK hb hk
    go_enter Tryz.func51, Tryz.ntmps51
    go_wp2_with fail
    refine (HR.out _ ((Below.refl _ _).alloc (Nat.le_refl _) _)).mono ?_
    rintro e w1 ⟨rfl, rfl⟩
    go_wp2_with fail
    refine (HK.out _).mono ?_
    rintro e w2 ⟨rfl, b2⟩
    have B2 := below_over b2
    clear b2
    go_wp2_with fail
    go_ret2
    exact ⟨rfl, B2⟩
  · rw [hk] at hK hb
    have HK := Lib.hid hK
    have ht : timeB t = false := by simpa using hb
    clear hK hb hk
    by_cases h1 : t < -1099511627776
    · clear ht
      go_enter Tryz.func51, Tryz.ntmps51
      go_wp2_with fail
      refine (HR.out _ ((Below.refl _ _).alloc (Nat.le_refl _) _)).mono ?_
      rintro e w1 ⟨rfl, rfl⟩
      go_wp2_with fail
      refine (HK.out _).mono ?_
      rintro e w2 ⟨rfl, b2⟩
      have B2 := below_over b2
      clear b2
      go_wp2_with fail
      go_ret2
      exact ⟨rfl, B2⟩
    · have h2 : 1099511627776 ≤ t := by unfold timeB at ht; simp at ht; omega
      have h1' : decide (t < -1099511627776) = false := by simpa using h1
      clear ht h1
      go_enter Tryz.func51, Tryz.ntmps51
      go_wp2_with fail
      refine (HR.out _ ((Below.refl _ _).alloc (Nat.le_refl _) _)).mono ?_
      rintro e w1 ⟨rfl, rfl⟩
      go_wp2_with fail
      refine (HK.out _).mono ?_
      rintro e w2 ⟨rfl, b2⟩
      have B2 := below_over b2
      clear b2
      go_wp2_with fail
      go_ret2
      exact ⟨rfl, B2⟩

theorem find_take_none {l : List Int} {p : Int → Bool} {k : Nat} {x : Int} (h : (l.take k).find? p = none) (hx : l[k]? = some x) (hp : p x = false) : (l.take (k + 1)).find? p = none := by
  rw [List.take_succ_eq_append_getElem (List.getElem?_eq_some_iff.1 hx).1, (List.getElem?_eq_some_iff.1 hx).2, List.find?_append, h]
  simp [hp]
theorem find_at {l : List Int} {p : Int → Bool} {k : Nat} {x : Int} (h : (l.take k).find? p = none) (hx : l[k]? = some x) (hp : p x = true) : l.find? p = some x := by
  have : l = l.take (k + 1) ++ l.drop (k + 1) := (List.take_append_drop _ _).symm
  rw [this, List.take_succ_eq_append_getElem (List.getElem?_eq_some_iff.1 hx).1, (List.getElem?_eq_some_iff.1 hx).2, List.find?_append, List.find?_append, h]
  simp [hp]
theorem atK_ids {s : Pst} (_hi : Ids s) (k : KeyP) (t : Int) {id : Int} (ht : timeB t = true) (hid : id ∈ atL (itemsK s.vs k) t) : ∃ v ∈ s.vs, v.id = id := by
  obtain ⟨x, hx, e, _⟩ := (mem_atL ht).1 hid
  obtain ⟨v, hv, _, rfl⟩ := mem_itemsK.1 hx
  exact ⟨v, hv, e⟩
theorem Ids.verAt {s : Pst} (h : Ids s) {v : Ver} (hv : v ∈ s.vs) : verAt s.vs v.id = v := by
  have hf : s.vs.find? (fun u => decide (u.id = v.id)) = some v := by
    cases hf : s.vs.find? (fun u => decide (u.id = v.id)) with
    | none =>
      have := List.find?_eq_none.1 hf v hv
      simp at this
    | some u =>
      have h1 := List.find?_some hf
      have h2 := List.mem_of_find?_eq_some hf
      rw [nodup_inj (·.id) s.vs h.nod u h2 v hv (by simpa using h1)]
  unfold Go.Proofs.YtflhpmgjehjjkaaGreatDoor.verAt; rw [hf]; rfl

set_option maxRecDepth 100000 in
set_option maxHeartbeats 4000000 in
theorem pvalue_none (k : KeyP) (a t : Int) (pb po : Nat) (R : Rest) (s : Pst) (g : Gh) (w : World) (h : PastAt w pb po R s g) (ha : askE s a = 0) (hk : keyB k = true) (ht : timeB t = true) (hy : treeFor g.ts k = none) :
    Calls Tryz.prog 51 #[.pointer (some ⟨pb, po, none⟩), .agg #[.int .i64 k.kind, .int .i64 k.a, .string k.word, .int .i64 k.b], .int .i64 a, .int .i64 t] w fun e w' => e = .returned (.tuple #[.string ⟨#[]⟩, .nilIface]) ∧ Below w.heap.size w w' := by
  have hR := fun W (hB : Below w.heap.size w W) => pright_any pb po R s g a W (h.below hB)
  rw [ha, errN_0] at hR
  have HR := Lib.hid hR
  have hs : k.word.size ≤ maxLen := by have := (wfkey hk).2; unfold maxLen; omega
  have hK := fun W => fkey_any k.kind k.a k.b k.word W hs
  rw [show (⟨k.kind, k.a, k.word, k.b⟩ : KeyP) = k from rfl, hk] at hK
  have hlk : ∀ W, Below w.heap.size w W → (Instr.lookup 25 (.map g.tm) (.agg #[.int .i64 k.kind, .int .i64 k.a, .string k.word, .int .i64 k.b]) false).run Tryz.prog W = .ok (.pointer none) W := fun W hB => by
    have := tree_look (h.below hB).trees h.keyOk hk
    rw [trPtr_none hy] at this
    exact this
  have ht' : -1099511627776 ≤ t ∧ t < 1099511627776 := by simpa [timeB] using ht
  obtain ⟨ht1, ht2⟩ := ht'
  have ht3 : decide (t < -1099511627776) = false := by simp; omega
  have ht4 : decide (1099511627776 ≤ t) = false := by simp; omega
  have hc : ∀ W, Below w.heap.size w W → W.cell? ⟨pb, po + 4, none⟩ = some (.map g.tm) := fun W hB => (past_cells (h.below hB).len (h.below hB).cells).2.2.2.2
  have HK := Lib.hid hK
  have HLK := Lib.hid hlk
  have HC := Lib.hid hc
  clear hR hK hlk hc ha hk hs ht hy h
  go_enter Tryz.func51, Tryz.ntmps51
  go_wp2_with fail
  refine (HR.out _ ((Below.refl _ _).alloc (Nat.le_refl _) _)).mono ?_
  rintro e w1 ⟨rfl, rfl⟩
  go_wp2_with fail
  refine (HK.out _).mono ?_
  rintro e w2 ⟨rfl, b2⟩
  have B2 := below_over b2
  have k0 := (b2.cell (p := ⟨w.heap.size, 0, none⟩) (by simp)).trans (show _ = some (.int .i64 k.kind) by simp)
  have k1 := (b2.cell (p := ⟨w.heap.size, 1, none⟩) (by simp)).trans (show _ = some (.int .i64 k.a) by simp)
  have k2 := (b2.cell (p := ⟨w.heap.size, 2, none⟩) (by simp)).trans (show _ = some (.string k.word) by simp)
  have k3 := (b2.cell (p := ⟨w.heap.size, 3, none⟩) (by simp)).trans (show _ = some (.int .i64 k.b) by simp)
  have c4 := HC.out w2 B2
  have hl := fun n => HLK.out (w2.drewN n) (below_drewN' B2 n)
  have HB2 := Lib.hid B2
  clear b2 B2
  go_wp2_with fail
  go_quiet (fail)
  revert nq; intro n1
  clear hl
  go_wp2_with fail
  go_ret2
  exact ⟨rfl, below_drewN' HB2.out n1⟩

set_option maxRecDepth 100000 in
set_option maxHeartbeats 4000000 in
theorem pvalue_some (k : KeyP) (a t : Int) (pb po : Nat) (R : Rest) (s : Pst) (g : Gh) (y : Tr) (w : World) (h : PastAt w pb po R s g) (ha : askE s a = 0) (hk : keyB k = true) (ht : timeB t = true) (hn : s.next ≤ 4000) (hy : treeFor g.ts k = some y) :
    Calls Tryz.prog 51 #[.pointer (some ⟨pb, po, none⟩), .agg #[.int .i64 k.kind, .int .i64 k.a, .string k.word, .int .i64 k.b], .int .i64 a, .int .i64 t] w fun e w' => e = .returned (.tuple #[.string (valueP s.vs k a t), .nilIface]) ∧ Below w.heap.size w w' := by
  have hR := fun W (hB : Below w.heap.size w W) => pright_any pb po R s g a W (h.below hB)
  rw [ha, errN_0] at hR
  have HR := Lib.hid hR
  have hs : k.word.size ≤ maxLen := by have := (wfkey hk).2; unfold maxLen; omega
  have hK := fun W => fkey_any k.kind k.a k.b k.word W hs
  rw [show (⟨k.kind, k.a, k.word, k.b⟩ : KeyP) = k from rfl, hk] at hK
  have hlk : ∀ W, Below w.heap.size w W → (Instr.lookup 25 (.map g.tm) (.agg #[.int .i64 k.kind, .int .i64 k.a, .string k.word, .int .i64 k.b]) false).run Tryz.prog W = .ok (.pointer (some ⟨y.tb, 0, none⟩)) W := fun W hB => by
    have := tree_look (h.below hB).trees h.keyOk hk
    rw [trPtr_some hy] at this
    exact this
  obtain ⟨hym, hyk⟩ := treeFor_some hy
  have ht' : -1099511627776 ≤ t ∧ t < 1099511627776 := by simpa [timeB] using ht
  obtain ⟨ht1, ht2⟩ := ht'
  have ht3 : decide (t < -1099511627776) = false := by simp; omega
  have ht4 : decide (1099511627776 ≤ t) = false := by simp; omega
  have hc : ∀ W, Below w.heap.size w W → W.cell? ⟨pb, po + 4, none⟩ = some (.map g.tm) ∧ W.cell? ⟨pb, po + 3, none⟩ = some (.map g.am) := fun W hB => ⟨(past_cells (h.below hB).len (h.below hB).cells).2.2.2.2, (past_cells (h.below hB).len (h.below hB).cells).2.2.2.1⟩
  have hT : ∀ W, Below w.heap.size w W → TreeAt W y.tb (itemsK s.vs k) y.t y.mb := fun W hB => by
    have := (h.below hB).tree y hym
    rw [hyk] at this; exact this
  have hvl : ∀ W, Below w.heap.size w W → ∀ v ∈ s.vs, (Instr.lookup 24 (.map g.am) (.int .i64 v.id) false).run Tryz.prog W = .ok (verV v) W := fun W hB v hv => by
    have hvs := (h.below hB).vers
    have hr := h.ids.rng v hv
    cases ham : g.am with
    | none => rw [ham] at hvs; have e : s.vs = [] := hvs; rw [e] at hv; cases hv
    | some am => rw [ham] at hvs; exact ver_look hvs hv ⟨by omega, by omega⟩
  have hil := items_len h.ids k
  have hle := atL_length (itemsK s.vs k) t
  have HK := Lib.hid hK
  have HLK := Lib.hid hlk
  have HC := Lib.hid hc
  have HT := Lib.hid hT
  have HVL := Lib.hid hvl
  have HP := Lib.hid h
  have HTT := Lib.hid ht
  clear hR hK hlk hc ha hk hs ht hy h hym hyk hT hvl
  go_enter Tryz.func51, Tryz.ntmps51
  go_wp2_with fail
  refine (HR.out _ ((Below.refl _ _).alloc (Nat.le_refl _) _)).mono ?_
  rintro e w1 ⟨rfl, rfl⟩
  go_wp2_with fail
  refine (HK.out _).mono ?_
  rintro e w2 ⟨rfl, b2⟩
  have B2 := below_over b2
  have k0 := (b2.cell (p := ⟨w.heap.size, 0, none⟩) (by simp)).trans (show _ = some (.int .i64 k.kind) by simp)
  have k1 := (b2.cell (p := ⟨w.heap.size, 1, none⟩) (by simp)).trans (show _ = some (.int .i64 k.a) by simp)
  have k2 := (b2.cell (p := ⟨w.heap.size, 2, none⟩) (by simp)).trans (show _ = some (.string k.word) by simp)
  have k3 := (b2.cell (p := ⟨w.heap.size, 3, none⟩) (by simp)).trans (show _ = some (.int .i64 k.b) by simp)
  have c4 := (HC.out w2 B2).1
  have hl := fun n => HLK.out (w2.drewN n) (below_drewN' B2 n)
  have HB2 := Lib.hid B2
  clear b2 B2
  go_wp2_with fail
  go_quiet (fail)
  revert nq; intro n1
  have hB3 := below_drewN' HB2.out n1
  have HB3 := Lib.hid hB3
  clear hl k0 k1 k2 k3 c4 hB3
  go_wp2_with fail
  refine (tat_any t _ y.tb (itemsK s.vs k) y.t y.mb (HT.out _ HB3.out) (by omega)).mono ?_
  rintro e w3 ⟨v3, rfl, own3, b3⟩
  obtain ⟨ids, hids⟩ : ∃ ids, ids = atL (itemsK s.vs k) t := ⟨_, rfl⟩
  rw [← hids] at own3
  obtain ⟨ao, cap, rfl, hcs⟩ := ownsRow_intsB own3
  have hlen : ids.length < 4294967296 := by rw [hids]; omega
  have hB4 : Below w.heap.size w w3 := HB3.out.trans (b3.mono (HB3.out.size))
  have HB4 := Lib.hid hB4
  have HIDS := Lib.hid hids
  have HCS := Lib.hid hcs
  clear own3 b3 hB4 hcs hle hids
  go_wp2_with fail
  go_loopw [45] (fun i wr => ∃ j : Nat, j ≤ ids.length ∧ i = .int .i64 j ∧ Hid ((ids.take j).find? (fun id => seenB (verAt s.vs id) a) = none) ∧ Below w3.heap.size w3 wr) (fun i _ => ids.length - (intOf i).toNat)
  case atStart => exact ⟨0, by omega, rfl, (rfl : (ids.take 0).find? _ = none), Below.refl _ _⟩
  case round =>
    obtain ⟨j, hj, rfl, hfd, hBr⟩ := hrel
    have HBR := Lib.hid hBr
    have hBw : Below w.heap.size w wr := HB4.out.trans (hBr.mono HB4.out.size)
    by_cases hlt : j < ids.length
    · obtain ⟨id, hid⟩ : ∃ id, ids[j]? = some id := ⟨_, List.getElem?_eq_getElem hlt⟩
      obtain ⟨b, rfl, _, hcell⟩ := HCS.out j id hid
      have hcw := below_cell hBr (World.block_lt_of_cell? w3 _ hcell) hcell
      have hbw : b < wr.heap.size := World.block_lt_of_cell? wr _ hcw
      obtain ⟨v, hv, rfl⟩ := atK_ids HP.out.ids k t HTT.out (by rw [← HIDS.out]; exact List.mem_of_getElem? hid)
      have hva := HP.out.ids.verAt hv
      have hl := HVL.out wr hBw v hv
      unfold verV at hl
      have c3 := (HC.out wr hBw).2
      have hsn := fun W => vseen_any v a W
      unfold verV at hsn
      have HVA := Lib.hid hva
      have HID := Lib.hid hid
      have HBW := Lib.hid hBw
      clear hva hid hcell hBr hBw hv
      cases hse : seenB v a
      · rw [hse] at hsn
        have HSN := Lib.hid hsn
        have hnx := find_take_none hfd.out HID.out (by rw [HVA.out]; exact hse)
        have HNX := Lib.hid hnx
        clear hsn hse hnx
        go_wp2_with fail
        refine (HSN.out _).mono ?_
        rintro e w4 ⟨rfl, b4⟩
        have B4 := HBR.out.trans ((below_over b4).mono HBR.out.size)
        have HB5 := Lib.hid B4
        clear b4 B4 hl c3 hcw
        go_wp2_with fail
        go_roundw
        case rel => exact ⟨j + 1, by omega, by go_num, HNX, HB5.out⟩
        case measure => simp [intOf]; omega
      · rw [hse] at hsn
        have HSN := Lib.hid hsn
        have hfa := find_at hfd.out HID.out (by rw [HVA.out]; exact hse)
        have hval : valueP s.vs k a t = v.val := by unfold valueP; rw [← HIDS.out, hfa]; simp only [HVA.out]
        have HVAL := Lib.hid hval
        clear hsn hse hfa hval
        go_wp2_with fail
        refine (HSN.out _).mono ?_
        rintro e w4 ⟨rfl, b4⟩
        have v4 := (b4.cell (p := ⟨wr.heap.size, 4, none⟩) (by simp)).trans (show _ = some (.string v.val) by simp)
        have B4 := HBW.out.trans ((below_over b4).mono HBW.out.size)
        have HB5 := Lib.hid B4
        clear b4 B4 hl c3 hcw
        go_wp2_with fail
        go_ret2
        exact ⟨by rw [HVAL.out]; rfl, HB5.out⟩
    · have hfa : ids.find? (fun id => seenB (verAt s.vs id) a) = none := by
        have := hfd.out
        rw [List.take_of_length_le (by omega)] at this; exact this
      have hval : valueP s.vs k a t = ⟨#[]⟩ := by unfold valueP; rw [← HIDS.out, hfa]
      have HVAL := Lib.hid hval
      have HBW := Lib.hid hBw
      clear hfa hval hfd hBr hBw
      go_wp2_with fail
      go_ret2
      exact ⟨by rw [HVAL.out]; rfl, HBW.out⟩
/-- Value, whatever is asked. -/
theorem pvalue_any (k : KeyP) (a t : Int) (pb po : Nat) (R : Rest) (s : Pst) (g : Gh) (w : World) (h : PastAt w pb po R s g) (hs : k.word.size ≤ maxLen) (hn : s.next ≤ 4000) :
    Calls Tryz.prog 51 #[.pointer (some ⟨pb, po, none⟩), .agg #[.int .i64 k.kind, .int .i64 k.a, .string k.word, .int .i64 k.b], .int .i64 a, .int .i64 t] w fun e w' => e = .returned (valV s k a t) ∧ Below w.heap.size w w' := by
  by_cases ha : askE s a = 0
  · cases hb : keyB k && timeB t
    · rw [valV_arg ha hb]
      exact pvalue_arg k a t pb po R s g w h hs ha hb
    · simp only [Bool.and_eq_true] at hb
      rw [valV_ok ha hb.1 hb.2]
      cases hy : treeFor g.ts k with
      | some y => exact pvalue_some k a t pb po R s g y w h ha hb.1 hb.2 hn hy
      | none =>
        have e : valueP s.vs k a t = ⟨#[]⟩ := by
          have hti : itemsK s.vs k = [] := by
            cases e : itemsK s.vs k with
            | nil => rfl
            | cons z l =>
              obtain ⟨v, hv, hvk, _⟩ := mem_itemsK.1 (show z ∈ itemsK s.vs k by rw [e]; simp)
              obtain ⟨z', hz', e'⟩ := h.all v hv
              exact absurd (e'.trans hvk) (treeFor_none hy z' hz')
          have : atL (itemsK s.vs k) t = [] := by
            have := atL_length (itemsK s.vs k) t
            rw [hti] at this ⊢
            exact List.eq_nil_of_length_eq_zero (by simpa using this)
          unfold valueP; rw [this]; rfl
        rw [e]
        exact pvalue_none k a t pb po R s g w h ha hb.1 hb.2 hy
  · rw [valV_ask ha]
    exact pvalue_ask k a t pb po R s g w h ha
end Go.Proofs.YtflhpmgjehjjkaaGreatDoor
