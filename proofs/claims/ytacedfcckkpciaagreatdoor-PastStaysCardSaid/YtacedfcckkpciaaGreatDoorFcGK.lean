/- The document's Write. The condition: the library's table of powers of ten is as its own text lays it. -/
import Derived.Test.YtacedfcckkpciaaGreatDoorFcFK
import Derived.Test.YtacedfcckkpciaaGreatDoorRowBK
import Derived.Test.YtacedfcckkpciaaGreatDoorFactMK
namespace Go.Proofs.YtacedfcckkpciaaGreatDoor
open Go.RowKit

def opCells (o : OpP) : List Value := [.int .i64 o.key.kind, .int .i64 o.key.a, .string o.key.word, .int .i64 o.key.b, .int .i64 o.fr, .int .i64 o.to, .string o.value]
/-- The slice that begins at an address holds these changes. -/
def opsAt (w : World) (ao : Option Addr) (l : List OpP) : Prop := ∀ i o, l[i]? = some o → ∃ b f, ao = some ⟨b, f, none⟩ ∧ ∀ j u, (opCells o)[j]? = some u → w.cell? ⟨b, f + i * 7 + j, none⟩ = some u
theorem opsAt.below {w w' : World} {ao : Option Addr} {l : List OpP} (h : opsAt w ao l) (hb : Below w.heap.size w w') : opsAt w' ao l :=
  fun i o hi => let ⟨b, f, h1, h2⟩ := h i o hi
    ⟨b, f, h1, fun j u hj => (hb.cell (p := ⟨b, _, none⟩) (World.block_lt_of_cell? w _ (h2 j u hj))).trans (h2 j u hj)⟩
theorem opsAt_get {w : World} {ao : Option Addr} {l : List OpP} (h : opsAt w ao l) {k : Nat} (hk : k < l.length) :
    ∃ b f n a s m x y u, Hid (l[k]? = some ⟨⟨n, a, s, m⟩, x, y, u⟩) ∧ ao = some ⟨b, f, none⟩ ∧ b < w.heap.size ∧ w.cell? ⟨b, f + k * 7, none⟩ = some (.int .i64 n) ∧ w.cell? ⟨b, f + k * 7 + 1, none⟩ = some (.int .i64 a) ∧ w.cell? ⟨b, f + k * 7 + 2, none⟩ = some (.string s) ∧
      w.cell? ⟨b, f + k * 7 + 3, none⟩ = some (.int .i64 m) ∧ w.cell? ⟨b, f + k * 7 + 4, none⟩ = some (.int .i64 x) ∧ w.cell? ⟨b, f + k * 7 + 5, none⟩ = some (.int .i64 y) ∧ w.cell? ⟨b, f + k * 7 + 6, none⟩ = some (.string u) := by
  cases hg : l[k] with
  | mk key x y u =>
    cases key with
    | mk n a s m =>
      have hs : l[k]? = some ⟨⟨n, a, s, m⟩, x, y, u⟩ := by rw [List.getElem?_eq_getElem hk, hg]
      obtain ⟨b, f, h1, h2⟩ := h k _ hs
      exact ⟨b, f, n, a, s, m, x, y, u, Lib.hid hs, h1, World.block_lt_of_cell? w _ (h2 0 _ rfl), h2 0 _ rfl, h2 1 _ rfl, h2 2 _ rfl, h2 3 _ rfl, h2 4 _ rfl, h2 5 _ rfl, h2 6 _ rfl⟩

/-! ### The text so far -/
theorem join_snoc (sep x : List UInt8) : ∀ l : List (List UInt8), l ≠ [] → Lib.join (l ++ [x]) sep = Lib.join l sep ++ (sep ++ x)
  | [], h => absurd rfl h
  | [p], _ => by simp [Lib.join, List.intercalate, List.intersperse]
  | p :: q :: r, _ => by
    have ih := join_snoc sep x (q :: r) (by simp)
    have e : ∀ (p q : List UInt8) (r : List (List UInt8)), Lib.join (p :: q :: r) sep = p ++ (sep ++ Lib.join (q :: r) sep) := fun p q r => by simp [Lib.join, List.intercalate, List.intersperse]
    rw [List.cons_append, List.cons_append, e, e, ← List.cons_append, ih]
    simp
/-- What stands ahead of the next change. -/
def ahead (T : List UInt8) (k : Nat) : List UInt8 := if 0 < k then T ++ [43] else T
theorem writeT_snoc {l : List OpP} {k : Nat} {o : OpP} (h : l[k]? = some o) : writeT (l.take (k + 1)) = ahead (writeT (l.take k)) k ++ opT o := by
  have hk : k < l.length := (List.getElem?_eq_some_iff.1 h).1
  rw [List.take_add_one, h]
  unfold writeT ahead
  simp only [Option.toList_some, List.map_append, List.map_cons, List.map_nil]
  by_cases h0 : 0 < k
  · rw [if_pos h0, join_snoc _ _ _ (by simp only [ne_eq, List.map_eq_nil_iff, List.take_eq_nil_iff]; intro e; rcases e with e | e; omega; subst e; simp at hk)]
    simp
  · obtain rfl : k = 0 := by omega
    rw [if_neg h0]
    simp [Lib.join, List.intercalate]
theorem ahead_len (T : List UInt8) (k : Nat) : (ahead T k).length ≤ T.length + 1 := by unfold ahead; split <;> simp
theorem word_size {s : ByteArray} (h : s.size = 0 ∨ wordB s = true) : s.size ≤ 12 := by
  rcases h with h | h
  · omega
  · unfold wordB at h; simp only [Bool.and_eq_true, decide_eq_true_eq] at h; exact h.1.2
theorem opT_len {o : OpP} (hb : opB o = true) : (opT o).length ≤ 500 := by
  have hw := opB_wf hb
  have h1 := word_size (key_word (op_key hb))
  have h2 := word_size (op_value hb)
  have := join_len [32] 61 (opWs o) (fun p hp => by
    obtain ⟨w1, w2, w3, w4, w5⟩ := hw
    have d1 := dashL_len o.key.word
    have d2 := dashL_len o.value
    have l1 := Lib.itoa_length_le _ w1.1 w1.2
    have l2 := Lib.itoa_length_le _ w2.1 w2.2
    have l3 := Lib.itoa_length_le _ w3.1 w3.2
    have l4 := Lib.itoa_length_le _ w4.1 w4.2
    have l5 := Lib.itoa_length_le _ w5.1 w5.2
    simp only [opWs, List.mem_cons, List.not_mem_nil, or_false] at hp
    rcases hp with rfl | rfl | rfl | rfl | rfl | rfl | rfl <;> omega)
  simp only [opWs, List.length_cons, List.length_nil] at this
  unfold opT opWs
  omega
theorem lenB_le {l : List OpP} (h : lenB l = true) : l.length ≤ 8 := by unfold lenB at h; simp only [decide_eq_true_eq] at h; exact h.2
theorem all_snoc {l : List OpP} {k : Nat} {o : OpP} (h : l[k]? = some o) (hb : (l.take k).all opB = true) (ho : opB o = true) : (l.take (k + 1)).all opB = true := by
  rw [List.take_add_one, h, List.all_append, hb]
  simp [ho]
theorem all_first {l : List OpP} {k : Nat} {o : OpP} (h : l[k]? = some o) (hb : (l.take k).all opB = true) (ho : opB o = false) : l.all opB = false ∧ (l.findIdx fun o => !opB o) = k := by
  have hk := List.getElem?_eq_some_iff.1 h
  obtain ⟨hk, e⟩ := hk
  refine ⟨?_, ?_⟩
  · rw [List.all_eq_false]; exact ⟨o, by rw [← e]; exact List.getElem_mem _, by simp [ho]⟩
  · rw [List.findIdx_eq hk]
    refine ⟨by simp [e, ho], fun j hj => ?_⟩
    have := List.all_eq_true.1 hb (l[j]'(by omega)) (by rw [List.mem_take_iff_getElem]; exact ⟨j, by omega, rfl⟩)
    simp [this]
theorem writeR_bad {l : List OpP} {k : Nat} {o : OpP} (hl : lenB l = true) (h : l[k]? = some o) (hb : (l.take k).all opB = true) (ho : opB o = false) : writeR l = ([], 1, (k : Int)) := by
  obtain ⟨h1, h2⟩ := all_first h hb ho
  unfold writeR
  rw [hl, h1, h2]; rfl
theorem writeR_good {l : List OpP} (hl : lenB l = true) (hb : l.all opB = true) : writeR l = (writeT l, 0, -1) := by
  unfold writeR; rw [hl, hb]; rfl
theorem writeR_len {l : List OpP} (hl : lenB l = false) : writeR l = ([], 4, -1) := by
  unfold writeR; rw [hl]; rfl
theorem ret_write {a b : List UInt8 × Int × Int} (h : a = b) : Ending.returned (.tuple #[.string ⟨a.1.toArray⟩, .agg #[.int .i64 a.2.1, .int .i64 a.2.2]]) = .returned (.tuple #[.string ⟨b.1.toArray⟩, .agg #[.int .i64 b.2.1, .int .i64 b.2.2]]) := by rw [h]
theorem rbare_any (n' : Int) (w : World) : Calls Tryz.prog 47 #[.int .i64 n'] w fun e w' => e = .returned (.agg #[.int .i64 n', .int .i64 (-1)]) ∧ Below w.heap.size w w' := by
  go_enter Tryz.func47, Tryz.ntmps47
  go_wp2_with fail
  exact bodyPost_ret (v := .agg #[.int .i64 n', .int .i64 (-1)]) (by simp [results, Tryz.results47, go_sem]) rfl ⟨rfl, (Below.refl _ w).alloc (Nat.le_refl _) _⟩

def wrφ (ob : Nat) (S : List UInt8) (n a m x y : Int) (s u : ByteArray) : Nat → World → Value → Prop := fun i V v => match i with
  | 0 => v = .string ⟨S.toArray⟩
  | 1 => v = .pointer (some ⟨ob, 0, none⟩)
  | 2 => v = .agg #[.int .i64 n, .int .i64 a, .string s, .int .i64 m]
  | 3 => v = .string ⟨(Lib.join [Lib.itoa n, Lib.itoa a, dashL s, Lib.itoa m] [32]).toArray⟩
  | 4 => v = .string (⟨(Lib.join [Lib.itoa n, Lib.itoa a, dashL s, Lib.itoa m] [32]).toArray⟩ ++ ⟨#[32]⟩)
  | 5 => v = .pointer (some ⟨ob, 4, none⟩)
  | 6 => v = .pointer (some ⟨ob, 4, none⟩)
  | 7 => v = .int .i64 x
  | 8 => v = .pointer (some ⟨ob, 4, none⟩)
  | 9 => v = .pointer (some ⟨ob, 5, none⟩)
  | 10 => v = .int .i64 y
  | 11 => ∃ g, v = .slice (some ⟨g, 0, none⟩) 2 2 ∧ intsAt V (some ⟨g, 0, none⟩) [x, y]
  | 12 => v = .string ⟨(wordsT [x, y]).toArray⟩
  | 13 => v = .string (⟨(Lib.join [Lib.itoa n, Lib.itoa a, dashL s, Lib.itoa m] [32]).toArray⟩ ++ ⟨#[32]⟩ ++ ⟨(wordsT [x, y]).toArray⟩)
  | 14 => v = .string (⟨(Lib.join [Lib.itoa n, Lib.itoa a, dashL s, Lib.itoa m] [32]).toArray⟩ ++ ⟨#[32]⟩ ++ ⟨(wordsT [x, y]).toArray⟩ ++ ⟨#[32]⟩)
  | 15 => v = .pointer (some ⟨ob, 6, none⟩)
  | 16 => v = .string u
  | 17 => v = .string ⟨(dashL u).toArray⟩
  | 18 => v = .string (⟨(Lib.join [Lib.itoa n, Lib.itoa a, dashL s, Lib.itoa m] [32]).toArray⟩ ++ ⟨#[32]⟩ ++ ⟨(wordsT [x, y]).toArray⟩ ++ ⟨#[32]⟩ ++ ⟨(dashL u).toArray⟩)
  | 19 => v = .string (⟨S.toArray⟩ ++ (⟨(Lib.join [Lib.itoa n, Lib.itoa a, dashL s, Lib.itoa m] [32]).toArray⟩ ++ ⟨#[32]⟩ ++ ⟨(wordsT [x, y]).toArray⟩ ++ ⟨#[32]⟩ ++ ⟨(dashL u).toArray⟩))
  | _ => True
theorem wrφ_0 (ob : Nat) (S : List UInt8) (n a m x y : Int) (s u : ByteArray) (V : World) (v : Value) (h : wrφ ob S n a m x y s u 0 V v) : v = .string ⟨S.toArray⟩ := h
theorem wrφ_1 (ob : Nat) (S : List UInt8) (n a m x y : Int) (s u : ByteArray) (V : World) (v : Value) (h : wrφ ob S n a m x y s u 1 V v) : v = .pointer (some ⟨ob, 0, none⟩) := h
theorem wrφ_2 (ob : Nat) (S : List UInt8) (n a m x y : Int) (s u : ByteArray) (V : World) (v : Value) (h : wrφ ob S n a m x y s u 2 V v) : v = .agg #[.int .i64 n, .int .i64 a, .string s, .int .i64 m] := h
theorem wrφ_3 (ob : Nat) (S : List UInt8) (n a m x y : Int) (s u : ByteArray) (V : World) (v : Value) (h : wrφ ob S n a m x y s u 3 V v) : v = .string ⟨(Lib.join [Lib.itoa n, Lib.itoa a, dashL s, Lib.itoa m] [32]).toArray⟩ := h
theorem wrφ_4 (ob : Nat) (S : List UInt8) (n a m x y : Int) (s u : ByteArray) (V : World) (v : Value) (h : wrφ ob S n a m x y s u 4 V v) : v = .string (⟨(Lib.join [Lib.itoa n, Lib.itoa a, dashL s, Lib.itoa m] [32]).toArray⟩ ++ ⟨#[32]⟩) := h
theorem wrφ_5 (ob : Nat) (S : List UInt8) (n a m x y : Int) (s u : ByteArray) (V : World) (v : Value) (h : wrφ ob S n a m x y s u 5 V v) : v = .pointer (some ⟨ob, 4, none⟩) := h
theorem wrφ_6 (ob : Nat) (S : List UInt8) (n a m x y : Int) (s u : ByteArray) (V : World) (v : Value) (h : wrφ ob S n a m x y s u 6 V v) : v = .pointer (some ⟨ob, 4, none⟩) := h
theorem wrφ_7 (ob : Nat) (S : List UInt8) (n a m x y : Int) (s u : ByteArray) (V : World) (v : Value) (h : wrφ ob S n a m x y s u 7 V v) : v = .int .i64 x := h
theorem wrφ_8 (ob : Nat) (S : List UInt8) (n a m x y : Int) (s u : ByteArray) (V : World) (v : Value) (h : wrφ ob S n a m x y s u 8 V v) : v = .pointer (some ⟨ob, 4, none⟩) := h
theorem wrφ_9 (ob : Nat) (S : List UInt8) (n a m x y : Int) (s u : ByteArray) (V : World) (v : Value) (h : wrφ ob S n a m x y s u 9 V v) : v = .pointer (some ⟨ob, 5, none⟩) := h
theorem wrφ_10 (ob : Nat) (S : List UInt8) (n a m x y : Int) (s u : ByteArray) (V : World) (v : Value) (h : wrφ ob S n a m x y s u 10 V v) : v = .int .i64 y := h
theorem wrφ_11 (ob : Nat) (S : List UInt8) (n a m x y : Int) (s u : ByteArray) (V : World) (v : Value) (h : wrφ ob S n a m x y s u 11 V v) : ∃ g, v = .slice (some ⟨g, 0, none⟩) 2 2 ∧ intsAt V (some ⟨g, 0, none⟩) [x, y] := h
theorem wrφ_12 (ob : Nat) (S : List UInt8) (n a m x y : Int) (s u : ByteArray) (V : World) (v : Value) (h : wrφ ob S n a m x y s u 12 V v) : v = .string ⟨(wordsT [x, y]).toArray⟩ := h
theorem wrφ_13 (ob : Nat) (S : List UInt8) (n a m x y : Int) (s u : ByteArray) (V : World) (v : Value) (h : wrφ ob S n a m x y s u 13 V v) : v = .string (⟨(Lib.join [Lib.itoa n, Lib.itoa a, dashL s, Lib.itoa m] [32]).toArray⟩ ++ ⟨#[32]⟩ ++ ⟨(wordsT [x, y]).toArray⟩) := h
theorem wrφ_14 (ob : Nat) (S : List UInt8) (n a m x y : Int) (s u : ByteArray) (V : World) (v : Value) (h : wrφ ob S n a m x y s u 14 V v) : v = .string (⟨(Lib.join [Lib.itoa n, Lib.itoa a, dashL s, Lib.itoa m] [32]).toArray⟩ ++ ⟨#[32]⟩ ++ ⟨(wordsT [x, y]).toArray⟩ ++ ⟨#[32]⟩) := h
theorem wrφ_15 (ob : Nat) (S : List UInt8) (n a m x y : Int) (s u : ByteArray) (V : World) (v : Value) (h : wrφ ob S n a m x y s u 15 V v) : v = .pointer (some ⟨ob, 6, none⟩) := h
theorem wrφ_16 (ob : Nat) (S : List UInt8) (n a m x y : Int) (s u : ByteArray) (V : World) (v : Value) (h : wrφ ob S n a m x y s u 16 V v) : v = .string u := h
theorem wrφ_17 (ob : Nat) (S : List UInt8) (n a m x y : Int) (s u : ByteArray) (V : World) (v : Value) (h : wrφ ob S n a m x y s u 17 V v) : v = .string ⟨(dashL u).toArray⟩ := h
theorem wrφ_18 (ob : Nat) (S : List UInt8) (n a m x y : Int) (s u : ByteArray) (V : World) (v : Value) (h : wrφ ob S n a m x y s u 18 V v) : v = .string (⟨(Lib.join [Lib.itoa n, Lib.itoa a, dashL s, Lib.itoa m] [32]).toArray⟩ ++ ⟨#[32]⟩ ++ ⟨(wordsT [x, y]).toArray⟩ ++ ⟨#[32]⟩ ++ ⟨(dashL u).toArray⟩) := h
theorem wrφ_19 (ob : Nat) (S : List UInt8) (n a m x y : Int) (s u : ByteArray) (V : World) (v : Value) (h : wrφ ob S n a m x y s u 19 V v) : v = .string (⟨S.toArray⟩ ++ (⟨(Lib.join [Lib.itoa n, Lib.itoa a, dashL s, Lib.itoa m] [32]).toArray⟩ ++ ⟨#[32]⟩ ++ ⟨(wordsT [x, y]).toArray⟩ ++ ⟨#[32]⟩ ++ ⟨(dashL u).toArray⟩)) := h
theorem wrφ_mono (ob : Nat) (S : List UInt8) (n a m x y : Int) (s u : ByteArray) (i : Nat) (V V' : World) (v : Value) (hb : Below V.heap.size V V') (h : wrφ ob S n a m x y s u i V v) : wrφ ob S n a m x y s u i V' v :=
  match i, h with
  | 0, h => h
  | 1, h => h
  | 2, h => h
  | 3, h => h
  | 4, h => h
  | 5, h => h
  | 6, h => h
  | 7, h => h
  | 8, h => h
  | 9, h => h
  | 10, h => h
  | 11, h => let ⟨g, e, hg⟩ := h; ⟨g, e, hg.below hb⟩
  | 12, h => h
  | 13, h => h
  | 14, h => h
  | 15, h => h
  | 16, h => h
  | 17, h => h
  | 18, h => h
  | 19, h => h
  | _ + 20, _ => trivial
theorem wrφ_list {X : List Value} (h : X.length = 20) : ∃ x0 x1 x2 x3 x4 x5 x6 x7 x8 x9 x10 x11 x12 x13 x14 x15 x16 x17 x18 x19, X = [x0, x1, x2, x3, x4, x5, x6, x7, x8, x9, x10, x11, x12, x13, x14, x15, x16, x17, x18, x19] :=
  match X, h with | [x0, x1, x2, x3, x4, x5, x6, x7, x8, x9, x10, x11, x12, x13, x14, x15, x16, x17, x18, x19], _ => ⟨x0, x1, x2, x3, x4, x5, x6, x7, x8, x9, x10, x11, x12, x13, x14, x15, x16, x17, x18, x19, rfl⟩

theorem fault_set {w V : World} {b : Nat} {u v : Value} (x y : Int) (hB : Below w.heap.size w V) (hb : w.heap.size ≤ b) (h0 : V.cell? ⟨b, 0, none⟩ = some u) (h1 : V.cell? ⟨b, 1, none⟩ = some v) :
    ∃ W, (V.setCell ⟨b, 0, none⟩ (.int .i64 x)).setCell ⟨b, 1, none⟩ (.int .i64 y) = W ∧ W.cell? ⟨b, 0, none⟩ = some (.int .i64 x) ∧ W.cell? ⟨b, 1, none⟩ = some (.int .i64 y) ∧ Below w.heap.size w W :=
  ⟨_, rfl, (World.cell?_setCell_other _ _ _ _ (by simp)).trans (World.cell?_setCell_same _ _ _ h0), World.cell?_setCell_same _ _ _ ((World.cell?_setCell_other _ _ _ _ (by simp)).trans h1),
    (hB.setCell (p := ⟨b, 0, none⟩) hb _).setCell (p := ⟨b, 1, none⟩) hb _⟩
set_option maxRecDepth 100000 in
set_option maxHeartbeats 2000000 in
theorem rwrite_any (ao : Option Addr) (c : Nat) (l : List OpP) (w : World) (hl : opsAt w ao l) (hs : ∀ o ∈ l, o.key.word.size ≤ 100000 ∧ o.value.size ≤ 100000) (ht : PowTab w) :
    Calls Tryz.prog 45 #[.slice ao l.length c] w fun e w' => e = .returned (.tuple #[.string ⟨(writeR l).1.toArray⟩, .agg #[.int .i64 (writeR l).2.1, .int .i64 (writeR l).2.2]]) ∧ Below w.heap.size w w' := by
  have HS := Lib.hid hs
  have HT := Lib.hid ht
  have HL := Lib.hid hl
  clear hs ht hl
  obtain ⟨W, hW⟩ : ∃ W, W = w.alloc (.cells #[.int .i64 0, .int .i64 0] 76) := ⟨_, rfl⟩
  have bA : Below w.heap.size w W := by rw [hW]; exact (Below.refl _ w).alloc (Nat.le_refl _) _
  have hwW : w.heap.size < W.heap.size := by rw [hW]; simp
  have q0 : W.cell? ⟨w.heap.size, 0, none⟩ = some (.int .i64 0) := by rw [hW]; simp
  have q1 : W.cell? ⟨w.heap.size, 1, none⟩ = some (.int .i64 0) := by rw [hW]; simp
  have f0 : W.frozen? ⟨w.heap.size, 0, none⟩ = false := by rw [hW]; simp
  have f1 : W.frozen? ⟨w.heap.size, 1, none⟩ = false := by rw [hW]; simp
  have HW := Lib.hid hW
  have HB := Lib.hid bA
  clear hW bA
  cases hlen : lenB l
  · rw [writeR_len hlen]
    have hlen' : inB (l.length : Int) 1 8 = false := by unfold inB; unfold lenB at hlen; rw [← hlen, Bool.eq_iff_iff]; simp; omega
    have HN := Lib.hid hlen'
    clear hlen hlen'
    have HI : ∀ W, Calls Tryz.prog 48 #[.int .i64 l.length, .int .i64 1, .int .i64 8] W fun e w' => e = .returned (.bool false) ∧ W = w' := fun W => by have := in_any l.length 1 8 W; rw [HN.out] at this; exact this
    go_enter Tryz.func45, Tryz.ntmps45
    go_wp2_with fail
    rw [← HW.out]
    go_wp2_with (first | (go_at_call 48; refine (HI _).mono ?_; rintro e w' ⟨rfl, rfl⟩) | (go_at_call 47; refine (rbare_any 4 _).mono ?_; rintro e w1 ⟨rfl, b1⟩; have r0 := below_cell b1 hwW q0; have r1 := below_cell b1 hwW q1; have s0 := below_frozen b1 hwW f0; have s1 := below_frozen b1 hwW f1))
    obtain ⟨W3, hW3, k0, k1, hB3⟩ := fault_set 4 (-1) (below_step HB.out b1) (Nat.le_refl _) r0 r1
    rw [hW3]
    exact bodyPost_ret (v := .tuple #[.string ⟨#[]⟩, .agg #[.int .i64 4, .int .i64 (-1)]]) (by simp [results, Tryz.results45, go_sem, k0, k1]) rfl ⟨rfl, hB3⟩
  · have hlen' : inB (l.length : Int) 1 8 = true := by unfold inB; unfold lenB at hlen; rw [← hlen, Bool.eq_iff_iff]; simp; omega
    have HN := Lib.hid hlen'
    have HLen := Lib.hid hlen
    have hn := lenB_le hlen
    clear hlen hlen'
    have HI : ∀ W, Calls Tryz.prog 48 #[.int .i64 l.length, .int .i64 1, .int .i64 8] W fun e w' => e = .returned (.bool true) ∧ W = w' := fun W => by have := in_any l.length 1 8 W; rw [HN.out] at this; exact this
    go_enter Tryz.func45, Tryz.ntmps45
    go_wp2_with (go_at_call 48; refine (HI _).mono ?_; rintro e w' ⟨rfl, rfl⟩)
    rw [← HW.out]
    go_loopw [4, 14] (fun sv i wr => ∃ (k : Nat) (T : List UInt8), k ≤ l.length ∧ i = .int .i64 k ∧ sv = .string ⟨T.toArray⟩ ∧ Hid (T = writeT (l.take k)) ∧ T.length ≤ k * 501 ∧ Hid ((l.take k).all opB = true) ∧ Below W.heap.size W wr) (fun _ i _ => l.length - (intOf i).toNat)
    case atStart => exact ⟨0, [], Nat.zero_le _, rfl, rfl, Lib.hid (by simp [writeT, Lib.join, List.intercalate]), by simp, Lib.hid (by simp), Below.refl _ _⟩
    case round =>
      obtain ⟨k, T, hk, rfl, rfl, hT, hTl, hall, hB⟩ := hrel
      have hwr : w.heap.size < wr.heap.size := Nat.lt_of_lt_of_le hwW hB.size
      have r0 := below_cell hB hwW q0
      have r1 := below_cell hB hwW q1
      have s0 := below_frozen hB hwW f0
      have s1 := below_frozen hB hwW f1
      have hBw := below_trans HB.out HB.out.size hB
      have HBr := Lib.hid hB
      clear hB
      by_cases hlt : k < l.length
      · obtain ⟨b, f, n, a, s, m, x, y, u, g1, rfl, hb, c0, c1, c2, c3, c4, c5, c6⟩ := opsAt_get (HL.out.below hBw) hlt
        have hmem : (⟨⟨n, a, s, m⟩, x, y, u⟩ : OpP) ∈ l := List.mem_of_getElem? g1.out
        have hsz := HS.out _ hmem
        simp only at hsz
        obtain ⟨W1, hW1⟩ : ∃ W1, W1 = wr.alloc (.cells #[.int .i64 n, .int .i64 a, .string s, .int .i64 m, .int .i64 x, .int .i64 y, .string u] 46) := ⟨_, rfl⟩
        have b1 : Below wr.heap.size wr W1 := by rw [hW1]; exact (Below.refl _ wr).alloc (Nat.le_refl _) _
        have hoW : wr.heap.size < W1.heap.size := by rw [hW1]; simp
        obtain ⟨ob, hob⟩ : ∃ ob, ob = wr.heap.size := ⟨_, rfl⟩
        rw [← hob] at hoW
        have d0 : W1.cell? ⟨ob, 0, none⟩ = some (.int .i64 n) := by rw [hob, hW1]; simp
        have d1 : W1.cell? ⟨ob, 1, none⟩ = some (.int .i64 a) := by rw [hob, hW1]; simp
        have d2 : W1.cell? ⟨ob, 2, none⟩ = some (.string s) := by rw [hob, hW1]; simp
        have d3 : W1.cell? ⟨ob, 3, none⟩ = some (.int .i64 m) := by rw [hob, hW1]; simp
        have d4 : W1.cell? ⟨ob, 4, none⟩ = some (.int .i64 x) := by rw [hob, hW1]; simp
        have d5 : W1.cell? ⟨ob, 5, none⟩ = some (.int .i64 y) := by rw [hob, hW1]; simp
        have d6 : W1.cell? ⟨ob, 6, none⟩ = some (.string u) := by rw [hob, hW1]; simp
        have HW1 := Lib.hid hW1
        have HOB := Lib.hid hob
        have hOp := Lib.hid fun W' => rop_any n a m x y s u W' (by unfold maxLen; omega) (by unfold maxLen; omega)
        have r0 := below_cell b1 hwr r0
        have r1 := below_cell b1 hwr r1
        have s0 := below_frozen b1 hwr s0
        have s1 := below_frozen b1 hwr s1
        have hwr1 : w.heap.size < W1.heap.size := Nat.lt_of_lt_of_le hwr b1.size
        have hBw1 := below_trans hBw hBw.size b1
        have HB1 := Lib.hid hBw1
        have HBw := Lib.hid hBw
        clear hW1 hob hBw1 hBw b1
        go_wp2_with fail
        rw [← HW1.out, ← HOB.out]
        cases hv : opB ⟨⟨n, a, s, m⟩, x, y, u⟩
        · refine (hOp.out W1).mono ?_
          rw [hv]
          rintro e w2 ⟨rfl, b2⟩
          have r0 := below_cell b2 hwr1 r0
          have r1 := below_cell b2 hwr1 r1
          have s0 := below_frozen b2 hwr1 s0
          have s1 := below_frozen b2 hwr1 s1
          go_wp2_with fail
          obtain ⟨W3, hW3, k0, k1, hB3⟩ := fault_set 1 k (below_trans HB1.out HB1.out.size b2) (Nat.le_refl _) r0 r1
          rw [hW3]
          exact bodyPost_ret (v := .tuple #[.string ⟨#[]⟩, .agg #[.int .i64 1, .int .i64 k]]) (by simp [results, Tryz.results45, go_sem, k0, k1]) rfl ⟨ret_write (writeR_bad HLen.out g1.out hall.out hv).symm, hB3⟩
        · refine (hOp.out W1).mono ?_
          rw [hv]
          rintro e w2 ⟨rfl, b2⟩
          have hwf := opB_wf hv
          have hlen1 := Lib.hid (opT_len hv)
          obtain ⟨i1, i2, i3, i4, i5⟩ := hwf
          have hw : i64B n ∧ i64B a ∧ i64B m := ⟨i1, i2, i3⟩
          have hwl : ∀ z ∈ [x, y], i64B z := by intro z hz; simp at hz; rcases hz with rfl | rfl; exact i4; exact i5
          have hV := Lib.hid hv
          clear hv
          have c0 := below_cell b2 hoW d0
          have c1 := below_cell b2 hoW d1
          have c2 := below_cell b2 hoW d2
          have c3 := below_cell b2 hoW d3
          have c4 := below_cell b2 hoW d4
          have c5 := below_cell b2 hoW d5
          have c6 := below_cell b2 hoW d6
          have hoW := Nat.lt_of_lt_of_le hoW b2.size
          have tW := HT.out.below (below_trans HB1.out HB1.out.size b2)
          have B12 := Lib.hid (below_step (by rw [HW1.out]; exact (Below.refl _ wr).alloc (Nat.le_refl _) _ : Below wr.heap.size wr W1) b2)
          have l1 := wordsT_len [x, y] hwl
          have l2 := dashL_len s
          have l3 := dashL_len u
          have l4 := join_len [32] 100002 [Lib.itoa n, Lib.itoa a, dashL s, Lib.itoa m] (by
            have j1 := Lib.itoa_length_le _ i1.1 i1.2
            have j2 := Lib.itoa_length_le _ i2.1 i2.2
            have j3 := Lib.itoa_length_le _ i3.1 i3.2
            simp only at j1 j2 j3
            intro p hp; simp only [List.mem_cons, List.not_mem_nil, or_false] at hp; rcases hp with rfl | rfl | rfl | rfl <;> omega)
          simp only [List.length_cons, List.length_nil] at l1 l4
          clear b2 d0 d1 d2 d3 d4 d5 d6 r0 r1 s0 s1 hOp i1 i2 i3 i4 i5
          obtain ⟨S, hS⟩ : ∃ S, S = ahead T k := ⟨_, rfl⟩
          have hSe := Lib.hid hS
          clear hS
          by_cases hk0 : 0 < k
          · have hcat : ¬ 9223372036854775807 < T.length + 1 := by omega
            have eS : (⟨T.toArray⟩ : ByteArray) ++ ⟨#[43]⟩ = ⟨S.toArray⟩ := bytes_ext (by rw [hSe.out]; simp [ahead, hk0])
            have HE := Lib.hid eS
            clear eS
            have hS : S.length ≤ k * 501 + 1 := by have := ahead_len T k; rw [hSe.out]; omega
            go_wp2_with fail
            rw [HE.out]
            refine wp_region_dag_at 28 20 _ (fun V => Below w2.heap.size w2 V) (fun V V' => Below V.heap.size V V') (wrφ ob S n a m x y s u) rfl (by kernel_rfl) (by kernel_rfl) ?_ rfl (Below.refl _ _).drew ?_ ?_
            · exact fun i V V' v _ _ hb h => wrφ_mono _ _ _ _ _ _ _ _ _ i V V' v hb h
            · simp only [List.take_succ_cons, List.take_zero, DagSteps, and_true]
              refine ⟨?_, ?_, ?_, ?_, ?_, ?_, ?_, ?_, ?_, ?_, ?_, ?_, ?_, ?_, ?_, ?_, ?_, ?_, ?_, ?_⟩
              · intro A V K hC hP hd hK
                have p4 : A.tmps[4]?.getD undef = .string ⟨S.toArray⟩ := evalT (hP 4 (of_decide_eq_true rfl))
                clear hP hd
                unfold Oper.wp
                go_simp
                exact hK _ _ hC (Below.refl _ _) rfl
              · intro A V K hC hP hd hK
                have p6 : A.tmps[6]?.getD undef = .pointer (some ⟨ob, 0, none⟩) := evalT (hP 6 (of_decide_eq_true rfl))
                clear hP hd
                unfold Oper.wp
                go_simp
                exact hK _ _ hC (Below.refl _ _) rfl
              · intro A V K hC hP hd hK
                have e1 : A.tmps[29]?.getD undef = .pointer (some ⟨ob, 0, none⟩) := evalT (wrφ_1 _ _ _ _ _ _ _ _ _ _ _ (hd 1 (by kernel_rfl)))
                have d0 := below_cell hC hoW c0
                have d1 := below_cell hC hoW c1
                have d2 := below_cell hC hoW c2
                have d3 := below_cell hC hoW c3
                clear hP hd
                unfold Oper.wp
                go_simp
                exact hK _ _ hC (Below.refl _ _) rfl
              · intro A V K hC hP hd hK
                have e2 : A.tmps[30]?.getD undef = .agg #[.int .i64 n, .int .i64 a, .string s, .int .i64 m] := evalT (wrφ_2 _ _ _ _ _ _ _ _ _ _ _ (hd 2 (by kernel_rfl)))
                clear hP hd
                unfold Oper.wp
                go_simp
                refine (keyText_any n a m s V hw.1 hw.2.1 hw.2.2 hsz.1 (tW.below hC)).mono ?_
                rintro e w1 ⟨rfl, h1⟩
                exact hK _ _ (below_trans hC hC.size h1) h1 rfl
              · intro A V K hC hP hd hK
                have e3 : A.tmps[31]?.getD undef = .string ⟨(Lib.join [Lib.itoa n, Lib.itoa a, dashL s, Lib.itoa m] [32]).toArray⟩ := evalT (wrφ_3 _ _ _ _ _ _ _ _ _ _ _ (hd 3 (by kernel_rfl)))
                clear hP hd
                unfold Oper.wp
                go_simp
                rw [if_neg (by omega)]
                exact hK _ _ hC (Below.refl _ _) rfl
              · intro A V K hC hP hd hK
                have p6 : A.tmps[6]?.getD undef = .pointer (some ⟨ob, 0, none⟩) := evalT (hP 6 (of_decide_eq_true rfl))
                clear hP hd
                unfold Oper.wp
                go_simp
                exact hK _ _ hC (Below.refl _ _) rfl
              · intro A V K hC hP hd hK
                have e5 : A.tmps[33]?.getD undef = .pointer (some ⟨ob, 4, none⟩) := evalT (wrφ_5 _ _ _ _ _ _ _ _ _ _ _ (hd 5 (by kernel_rfl)))
                clear hP hd
                unfold Oper.wp
                go_simp
                exact hK _ _ hC (Below.refl _ _) rfl
              · intro A V K hC hP hd hK
                have e6 : A.tmps[34]?.getD undef = .pointer (some ⟨ob, 4, none⟩) := evalT (wrφ_6 _ _ _ _ _ _ _ _ _ _ _ (hd 6 (by kernel_rfl)))
                have d4 := below_cell hC hoW c4
                clear hP hd
                unfold Oper.wp
                go_simp
                exact hK _ _ hC (Below.refl _ _) rfl
              · intro A V K hC hP hd hK
                have p6 : A.tmps[6]?.getD undef = .pointer (some ⟨ob, 0, none⟩) := evalT (hP 6 (of_decide_eq_true rfl))
                clear hP hd
                unfold Oper.wp
                go_simp
                exact hK _ _ hC (Below.refl _ _) rfl
              · intro A V K hC hP hd hK
                have e8 : A.tmps[36]?.getD undef = .pointer (some ⟨ob, 4, none⟩) := evalT (wrφ_8 _ _ _ _ _ _ _ _ _ _ _ (hd 8 (by kernel_rfl)))
                clear hP hd
                unfold Oper.wp
                go_simp
                exact hK _ _ hC (Below.refl _ _) rfl
              · intro A V K hC hP hd hK
                have e9 : A.tmps[37]?.getD undef = .pointer (some ⟨ob, 5, none⟩) := evalT (wrφ_9 _ _ _ _ _ _ _ _ _ _ _ (hd 9 (by kernel_rfl)))
                have d5 := below_cell hC hoW c5
                clear hP hd
                unfold Oper.wp
                go_simp
                exact hK _ _ hC (Below.refl _ _) rfl
              · intro A V K hC hP hd hK
                have e7 : A.tmps[35]?.getD undef = .int .i64 x := evalT (wrφ_7 _ _ _ _ _ _ _ _ _ _ _ (hd 7 (by kernel_rfl)))
                have e10 : A.tmps[38]?.getD undef = .int .i64 y := evalT (wrφ_10 _ _ _ _ _ _ _ _ _ _ _ (hd 10 (by kernel_rfl)))
                clear hP hd
                unfold Oper.wp
                go_simp
                exact hK _ _ (hC.alloc hC.size _) ((Below.refl _ _).alloc (Nat.le_refl _) _) ⟨_, rfl, intsAt_new _ [x, y] (by simp)⟩
              · intro A V K hC hP hd hK
                have h11 := hd 11 (by kernel_rfl)
                have h11 := wrφ_11 _ _ _ _ _ _ _ _ _ _ _ h11
                obtain ⟨g, eg, hg⟩ := h11
                have e11 := evalT (t := 39) eg
                clear hP hd
                unfold Oper.wp
                go_simp
                refine (words_any _ 2 [x, y] V hg hwl (by simp) (tW.below hC)).mono ?_
                rintro e w1 ⟨rfl, h1⟩
                exact hK _ _ (below_trans hC hC.size h1) h1 rfl
              · intro A V K hC hP hd hK
                have e4 : A.tmps[32]?.getD undef = .string (⟨(Lib.join [Lib.itoa n, Lib.itoa a, dashL s, Lib.itoa m] [32]).toArray⟩ ++ ⟨#[32]⟩) := evalT (wrφ_4 _ _ _ _ _ _ _ _ _ _ _ (hd 4 (by kernel_rfl)))
                have e12 : A.tmps[40]?.getD undef = .string ⟨(wordsT [x, y]).toArray⟩ := evalT (wrφ_12 _ _ _ _ _ _ _ _ _ _ _ (hd 12 (by kernel_rfl)))
                clear hP hd
                unfold Oper.wp
                go_simp
                rw [if_neg (by omega)]
                exact hK _ _ hC (Below.refl _ _) rfl
              · intro A V K hC hP hd hK
                have e13 : A.tmps[41]?.getD undef = .string (⟨(Lib.join [Lib.itoa n, Lib.itoa a, dashL s, Lib.itoa m] [32]).toArray⟩ ++ ⟨#[32]⟩ ++ ⟨(wordsT [x, y]).toArray⟩) := evalT (wrφ_13 _ _ _ _ _ _ _ _ _ _ _ (hd 13 (by kernel_rfl)))
                clear hP hd
                unfold Oper.wp
                go_simp
                rw [if_neg (by omega)]
                exact hK _ _ hC (Below.refl _ _) rfl
              · intro A V K hC hP hd hK
                have p6 : A.tmps[6]?.getD undef = .pointer (some ⟨ob, 0, none⟩) := evalT (hP 6 (of_decide_eq_true rfl))
                clear hP hd
                unfold Oper.wp
                go_simp
                exact hK _ _ hC (Below.refl _ _) rfl
              · intro A V K hC hP hd hK
                have e15 : A.tmps[43]?.getD undef = .pointer (some ⟨ob, 6, none⟩) := evalT (wrφ_15 _ _ _ _ _ _ _ _ _ _ _ (hd 15 (by kernel_rfl)))
                have d6 := below_cell hC hoW c6
                clear hP hd
                unfold Oper.wp
                go_simp
                exact hK _ _ hC (Below.refl _ _) rfl
              · intro A V K hC hP hd hK
                have e16 : A.tmps[44]?.getD undef = .string u := evalT (wrφ_16 _ _ _ _ _ _ _ _ _ _ _ (hd 16 (by kernel_rfl)))
                clear hP hd
                unfold Oper.wp
                go_simp
                refine (dashR_any u V).mono ?_
                rintro e w1 ⟨rfl, rfl⟩
                exact hK _ _ hC (Below.refl _ _) rfl
              · intro A V K hC hP hd hK
                have e14 : A.tmps[42]?.getD undef = .string (⟨(Lib.join [Lib.itoa n, Lib.itoa a, dashL s, Lib.itoa m] [32]).toArray⟩ ++ ⟨#[32]⟩ ++ ⟨(wordsT [x, y]).toArray⟩ ++ ⟨#[32]⟩) := evalT (wrφ_14 _ _ _ _ _ _ _ _ _ _ _ (hd 14 (by kernel_rfl)))
                have e17 : A.tmps[45]?.getD undef = .string ⟨(dashL u).toArray⟩ := evalT (wrφ_17 _ _ _ _ _ _ _ _ _ _ _ (hd 17 (by kernel_rfl)))
                clear hP hd
                unfold Oper.wp
                go_simp
                rw [if_neg (by omega)]
                exact hK _ _ hC (Below.refl _ _) rfl
              · intro A V K hC hP hd hK
                have e0 : A.tmps[28]?.getD undef = .string ⟨S.toArray⟩ := evalT (wrφ_0 _ _ _ _ _ _ _ _ _ _ _ (hd 0 (by kernel_rfl)))
                have e18 : A.tmps[46]?.getD undef = .string (⟨(Lib.join [Lib.itoa n, Lib.itoa a, dashL s, Lib.itoa m] [32]).toArray⟩ ++ ⟨#[32]⟩ ++ ⟨(wordsT [x, y]).toArray⟩ ++ ⟨#[32]⟩ ++ ⟨(dashL u).toArray⟩) := evalT (wrφ_18 _ _ _ _ _ _ _ _ _ _ _ (hd 18 (by kernel_rfl)))
                clear hP hd
                unfold Oper.wp
                go_simp
                rw [if_neg (by omega)]
                exact hK _ _ hC (Below.refl _ _) rfl
            · intro X w3 hX hC hφ
              obtain ⟨x0, x1, x2, x3, x4, x5, x6, x7, x8, x9, x10, x11, x12, x13, x14, x15, x16, x17, x18, x19, rfl⟩ := wrφ_list hX
              have e := wrφ_19 _ _ _ _ _ _ _ _ _ _ _ (hφ 19 (of_decide_eq_true rfl))
              have e : x19 = .string (⟨S.toArray⟩ ++ (⟨(Lib.join [Lib.itoa n, Lib.itoa a, dashL s, Lib.itoa m] [32]).toArray⟩ ++ ⟨#[32]⟩ ++ ⟨(wordsT [x, y]).toArray⟩ ++ ⟨#[32]⟩ ++ ⟨(dashL u).toArray⟩)) := e
              rw [e]
              clear e hφ hX
              unfold Oper.wp
              go_simp
              rename_i hK
              refine hK _ _ ?_
              have eT : (⟨S.toArray⟩ : ByteArray) ++ (⟨(Lib.join [Lib.itoa n, Lib.itoa a, dashL s, Lib.itoa m] [32]).toArray⟩ ++ ⟨#[32]⟩ ++ ⟨(wordsT [x, y]).toArray⟩ ++ ⟨#[32]⟩ ++ ⟨(dashL u).toArray⟩) = ⟨(S ++ opT ⟨⟨n, a, s, m⟩, x, y, u⟩).toArray⟩ := bytes_ext (by simp [opT, opWs, wordsT, Lib.join, List.intercalate, List.intersperse])
              rw [eT]
              clear eT
              go_wp2
              exact ⟨⟨k + 1, S ++ opT ⟨⟨n, a, s, m⟩, x, y, u⟩, by omega, by go_num, rfl, Lib.hid (by rw [writeT_snoc g1.out, ← hT.out, hSe.out]), by have := hlen1.out; simp only [List.length_append]; omega, Lib.hid (all_snoc g1.out hall.out hV.out), below_trans HBr.out HBr.out.size (below_step B12.out hC)⟩, by simp [intOf]; omega⟩
          · have eS : (⟨T.toArray⟩ : ByteArray) = ⟨S.toArray⟩ := bytes_ext (by rw [hSe.out]; simp [ahead, hk0])
            have HE := Lib.hid eS
            clear eS
            have hg1 : ¬ (0 : Int) < (k : Int) := by omega
            have hg2 : decide ((0 : Int) < (k : Int)) = false := by simpa using hk0
            have hS : S.length ≤ k * 501 + 1 := by have := ahead_len T k; rw [hSe.out]; omega
            go_wp2_with fail
            rw [HE.out]
            refine wp_region_dag_at 28 20 _ (fun V => Below w2.heap.size w2 V) (fun V V' => Below V.heap.size V V') (wrφ ob S n a m x y s u) rfl (by kernel_rfl) (by kernel_rfl) ?_ rfl (Below.refl _ _).drew ?_ ?_
            · exact fun i V V' v _ _ hb h => wrφ_mono _ _ _ _ _ _ _ _ _ i V V' v hb h
            · simp only [List.take_succ_cons, List.take_zero, DagSteps, and_true]
              refine ⟨?_, ?_, ?_, ?_, ?_, ?_, ?_, ?_, ?_, ?_, ?_, ?_, ?_, ?_, ?_, ?_, ?_, ?_, ?_, ?_⟩
              · intro A V K hC hP hd hK
                have p4 : A.tmps[4]?.getD undef = .string ⟨S.toArray⟩ := evalT (hP 4 (of_decide_eq_true rfl))
                clear hP hd
                unfold Oper.wp
                go_simp
                exact hK _ _ hC (Below.refl _ _) rfl
              · intro A V K hC hP hd hK
                have p6 : A.tmps[6]?.getD undef = .pointer (some ⟨ob, 0, none⟩) := evalT (hP 6 (of_decide_eq_true rfl))
                clear hP hd
                unfold Oper.wp
                go_simp
                exact hK _ _ hC (Below.refl _ _) rfl
              · intro A V K hC hP hd hK
                have e1 : A.tmps[29]?.getD undef = .pointer (some ⟨ob, 0, none⟩) := evalT (wrφ_1 _ _ _ _ _ _ _ _ _ _ _ (hd 1 (by kernel_rfl)))
                have d0 := below_cell hC hoW c0
                have d1 := below_cell hC hoW c1
                have d2 := below_cell hC hoW c2
                have d3 := below_cell hC hoW c3
                clear hP hd
                unfold Oper.wp
                go_simp
                exact hK _ _ hC (Below.refl _ _) rfl
              · intro A V K hC hP hd hK
                have e2 : A.tmps[30]?.getD undef = .agg #[.int .i64 n, .int .i64 a, .string s, .int .i64 m] := evalT (wrφ_2 _ _ _ _ _ _ _ _ _ _ _ (hd 2 (by kernel_rfl)))
                clear hP hd
                unfold Oper.wp
                go_simp
                refine (keyText_any n a m s V hw.1 hw.2.1 hw.2.2 hsz.1 (tW.below hC)).mono ?_
                rintro e w1 ⟨rfl, h1⟩
                exact hK _ _ (below_trans hC hC.size h1) h1 rfl
              · intro A V K hC hP hd hK
                have e3 : A.tmps[31]?.getD undef = .string ⟨(Lib.join [Lib.itoa n, Lib.itoa a, dashL s, Lib.itoa m] [32]).toArray⟩ := evalT (wrφ_3 _ _ _ _ _ _ _ _ _ _ _ (hd 3 (by kernel_rfl)))
                clear hP hd
                unfold Oper.wp
                go_simp
                rw [if_neg (by omega)]
                exact hK _ _ hC (Below.refl _ _) rfl
              · intro A V K hC hP hd hK
                have p6 : A.tmps[6]?.getD undef = .pointer (some ⟨ob, 0, none⟩) := evalT (hP 6 (of_decide_eq_true rfl))
                clear hP hd
                unfold Oper.wp
                go_simp
                exact hK _ _ hC (Below.refl _ _) rfl
              · intro A V K hC hP hd hK
                have e5 : A.tmps[33]?.getD undef = .pointer (some ⟨ob, 4, none⟩) := evalT (wrφ_5 _ _ _ _ _ _ _ _ _ _ _ (hd 5 (by kernel_rfl)))
                clear hP hd
                unfold Oper.wp
                go_simp
                exact hK _ _ hC (Below.refl _ _) rfl
              · intro A V K hC hP hd hK
                have e6 : A.tmps[34]?.getD undef = .pointer (some ⟨ob, 4, none⟩) := evalT (wrφ_6 _ _ _ _ _ _ _ _ _ _ _ (hd 6 (by kernel_rfl)))
                have d4 := below_cell hC hoW c4
                clear hP hd
                unfold Oper.wp
                go_simp
                exact hK _ _ hC (Below.refl _ _) rfl
              · intro A V K hC hP hd hK
                have p6 : A.tmps[6]?.getD undef = .pointer (some ⟨ob, 0, none⟩) := evalT (hP 6 (of_decide_eq_true rfl))
                clear hP hd
                unfold Oper.wp
                go_simp
                exact hK _ _ hC (Below.refl _ _) rfl
              · intro A V K hC hP hd hK
                have e8 : A.tmps[36]?.getD undef = .pointer (some ⟨ob, 4, none⟩) := evalT (wrφ_8 _ _ _ _ _ _ _ _ _ _ _ (hd 8 (by kernel_rfl)))
                clear hP hd
                unfold Oper.wp
                go_simp
                exact hK _ _ hC (Below.refl _ _) rfl
              · intro A V K hC hP hd hK
                have e9 : A.tmps[37]?.getD undef = .pointer (some ⟨ob, 5, none⟩) := evalT (wrφ_9 _ _ _ _ _ _ _ _ _ _ _ (hd 9 (by kernel_rfl)))
                have d5 := below_cell hC hoW c5
                clear hP hd
                unfold Oper.wp
                go_simp
                exact hK _ _ hC (Below.refl _ _) rfl
              · intro A V K hC hP hd hK
                have e7 : A.tmps[35]?.getD undef = .int .i64 x := evalT (wrφ_7 _ _ _ _ _ _ _ _ _ _ _ (hd 7 (by kernel_rfl)))
                have e10 : A.tmps[38]?.getD undef = .int .i64 y := evalT (wrφ_10 _ _ _ _ _ _ _ _ _ _ _ (hd 10 (by kernel_rfl)))
                clear hP hd
                unfold Oper.wp
                go_simp
                exact hK _ _ (hC.alloc hC.size _) ((Below.refl _ _).alloc (Nat.le_refl _) _) ⟨_, rfl, intsAt_new _ [x, y] (by simp)⟩
              · intro A V K hC hP hd hK
                have h11 := hd 11 (by kernel_rfl)
                have h11 := wrφ_11 _ _ _ _ _ _ _ _ _ _ _ h11
                obtain ⟨g, eg, hg⟩ := h11
                have e11 := evalT (t := 39) eg
                clear hP hd
                unfold Oper.wp
                go_simp
                refine (words_any _ 2 [x, y] V hg hwl (by simp) (tW.below hC)).mono ?_
                rintro e w1 ⟨rfl, h1⟩
                exact hK _ _ (below_trans hC hC.size h1) h1 rfl
              · intro A V K hC hP hd hK
                have e4 : A.tmps[32]?.getD undef = .string (⟨(Lib.join [Lib.itoa n, Lib.itoa a, dashL s, Lib.itoa m] [32]).toArray⟩ ++ ⟨#[32]⟩) := evalT (wrφ_4 _ _ _ _ _ _ _ _ _ _ _ (hd 4 (by kernel_rfl)))
                have e12 : A.tmps[40]?.getD undef = .string ⟨(wordsT [x, y]).toArray⟩ := evalT (wrφ_12 _ _ _ _ _ _ _ _ _ _ _ (hd 12 (by kernel_rfl)))
                clear hP hd
                unfold Oper.wp
                go_simp
                rw [if_neg (by omega)]
                exact hK _ _ hC (Below.refl _ _) rfl
              · intro A V K hC hP hd hK
                have e13 : A.tmps[41]?.getD undef = .string (⟨(Lib.join [Lib.itoa n, Lib.itoa a, dashL s, Lib.itoa m] [32]).toArray⟩ ++ ⟨#[32]⟩ ++ ⟨(wordsT [x, y]).toArray⟩) := evalT (wrφ_13 _ _ _ _ _ _ _ _ _ _ _ (hd 13 (by kernel_rfl)))
                clear hP hd
                unfold Oper.wp
                go_simp
                rw [if_neg (by omega)]
                exact hK _ _ hC (Below.refl _ _) rfl
              · intro A V K hC hP hd hK
                have p6 : A.tmps[6]?.getD undef = .pointer (some ⟨ob, 0, none⟩) := evalT (hP 6 (of_decide_eq_true rfl))
                clear hP hd
                unfold Oper.wp
                go_simp
                exact hK _ _ hC (Below.refl _ _) rfl
              · intro A V K hC hP hd hK
                have e15 : A.tmps[43]?.getD undef = .pointer (some ⟨ob, 6, none⟩) := evalT (wrφ_15 _ _ _ _ _ _ _ _ _ _ _ (hd 15 (by kernel_rfl)))
                have d6 := below_cell hC hoW c6
                clear hP hd
                unfold Oper.wp
                go_simp
                exact hK _ _ hC (Below.refl _ _) rfl
              · intro A V K hC hP hd hK
                have e16 : A.tmps[44]?.getD undef = .string u := evalT (wrφ_16 _ _ _ _ _ _ _ _ _ _ _ (hd 16 (by kernel_rfl)))
                clear hP hd
                unfold Oper.wp
                go_simp
                refine (dashR_any u V).mono ?_
                rintro e w1 ⟨rfl, rfl⟩
                exact hK _ _ hC (Below.refl _ _) rfl
              · intro A V K hC hP hd hK
                have e14 : A.tmps[42]?.getD undef = .string (⟨(Lib.join [Lib.itoa n, Lib.itoa a, dashL s, Lib.itoa m] [32]).toArray⟩ ++ ⟨#[32]⟩ ++ ⟨(wordsT [x, y]).toArray⟩ ++ ⟨#[32]⟩) := evalT (wrφ_14 _ _ _ _ _ _ _ _ _ _ _ (hd 14 (by kernel_rfl)))
                have e17 : A.tmps[45]?.getD undef = .string ⟨(dashL u).toArray⟩ := evalT (wrφ_17 _ _ _ _ _ _ _ _ _ _ _ (hd 17 (by kernel_rfl)))
                clear hP hd
                unfold Oper.wp
                go_simp
                rw [if_neg (by omega)]
                exact hK _ _ hC (Below.refl _ _) rfl
              · intro A V K hC hP hd hK
                have e0 : A.tmps[28]?.getD undef = .string ⟨S.toArray⟩ := evalT (wrφ_0 _ _ _ _ _ _ _ _ _ _ _ (hd 0 (by kernel_rfl)))
                have e18 : A.tmps[46]?.getD undef = .string (⟨(Lib.join [Lib.itoa n, Lib.itoa a, dashL s, Lib.itoa m] [32]).toArray⟩ ++ ⟨#[32]⟩ ++ ⟨(wordsT [x, y]).toArray⟩ ++ ⟨#[32]⟩ ++ ⟨(dashL u).toArray⟩) := evalT (wrφ_18 _ _ _ _ _ _ _ _ _ _ _ (hd 18 (by kernel_rfl)))
                clear hP hd
                unfold Oper.wp
                go_simp
                rw [if_neg (by omega)]
                exact hK _ _ hC (Below.refl _ _) rfl
            · intro X w3 hX hC hφ
              obtain ⟨x0, x1, x2, x3, x4, x5, x6, x7, x8, x9, x10, x11, x12, x13, x14, x15, x16, x17, x18, x19, rfl⟩ := wrφ_list hX
              have e := wrφ_19 _ _ _ _ _ _ _ _ _ _ _ (hφ 19 (of_decide_eq_true rfl))
              have e : x19 = .string (⟨S.toArray⟩ ++ (⟨(Lib.join [Lib.itoa n, Lib.itoa a, dashL s, Lib.itoa m] [32]).toArray⟩ ++ ⟨#[32]⟩ ++ ⟨(wordsT [x, y]).toArray⟩ ++ ⟨#[32]⟩ ++ ⟨(dashL u).toArray⟩)) := e
              rw [e]
              clear e hφ hX
              unfold Oper.wp
              go_simp
              rename_i hK
              refine hK _ _ ?_
              have eT : (⟨S.toArray⟩ : ByteArray) ++ (⟨(Lib.join [Lib.itoa n, Lib.itoa a, dashL s, Lib.itoa m] [32]).toArray⟩ ++ ⟨#[32]⟩ ++ ⟨(wordsT [x, y]).toArray⟩ ++ ⟨#[32]⟩ ++ ⟨(dashL u).toArray⟩) = ⟨(S ++ opT ⟨⟨n, a, s, m⟩, x, y, u⟩).toArray⟩ := bytes_ext (by simp [opT, opWs, wordsT, Lib.join, List.intercalate, List.intersperse])
              rw [eT]
              clear eT
              go_wp2
              exact ⟨⟨k + 1, S ++ opT ⟨⟨n, a, s, m⟩, x, y, u⟩, by omega, by go_num, rfl, Lib.hid (by rw [writeT_snoc g1.out, ← hT.out, hSe.out]), by have := hlen1.out; simp only [List.length_append]; omega, Lib.hid (all_snoc g1.out hall.out hV.out), below_trans HBr.out HBr.out.size (below_step B12.out hC)⟩, by simp [intOf]; omega⟩
      · have he : l.take k = l := List.take_of_length_le (by omega)
        rw [he] at hT hall
        have hBw := Lib.hid hBw
        go_wp2_with (go_at_call 47; refine (rbare_any 0 _).mono ?_; rintro e w1 ⟨rfl, b1⟩; have r0 := below_cell b1 hwr r0; have r1 := below_cell b1 hwr r1; have s0 := below_frozen b1 hwr s0; have s1 := below_frozen b1 hwr s1)
        obtain ⟨W3, hW3, k0, k1, hB3⟩ := fault_set 0 (-1) (below_trans hBw.out hBw.out.size b1) (Nat.le_refl _) r0 r1
        rw [hW3]
        exact bodyPost_ret (v := .tuple #[.string ⟨T.toArray⟩, .agg #[.int .i64 0, .int .i64 (-1)]]) (by simp [results, Tryz.results45, go_sem, k0, k1]) rfl ⟨by rw [hT.out]; exact ret_write (writeR_good HLen.out hall.out).symm, hB3⟩
end Go.Proofs.YtacedfcckkpciaaGreatDoor
