/- keep's changes by numbers, walked (ops). -/
import Derived.Deep.RegionHeld3
import Derived.Lib.AppendZeros
import Derived.Test.YtflhpmgjehjjkaaGreatDoorPsCJq
import Derived.Test.YtflhpmgjehjjkaaGreatDoorTreeRJq
import Derived.Test.YtflhpmgjehjjkaaGreatDoorDag3Jq
namespace Go.Proofs.YtflhpmgjehjjkaaGreatDoor
open Go.RowKit Go.Deep Go.Shelf Go.Sort Go.Maps

/-- In memory: transactions, in blocks that are not older than z. -/
def TxsAt (w : World) (z : Nat) (v : Value) (T : List (List OpP)) : Prop := ∃ ao c, v = .slice ao T.length c ∧ ∀ i t, T[i]? = some t →
  ∃ b0 b cap, ao = some ⟨b0, 0, none⟩ ∧ (z ≤ b0 ∧ b0 < w.heap.size) ∧ w.cell? ⟨b0, i, none⟩ = some (.slice (some ⟨b, 0, none⟩) t.length cap) ∧ (z ≤ b ∧ b < w.heap.size) ∧ opsAt w (some ⟨b, 0, none⟩) t
theorem OpsIn.txs {z : Nat} {T : List (List OpP)} {L : List OpP} {v u : Value} {w : World} (h : OpsIn z T L v u w) : TxsAt w z v T := by
  obtain ⟨⟨hs, h1, h2⟩, h3, h4⟩ := h
  have hl : hs.length = T.length := by have := h1.1; omega
  obtain ⟨ao, cap, rfl, _, hc⟩ := ownsRow_slice h1
  refine ⟨ao, cap, rfl, fun i t ht => ?_⟩
  have hi : i < hs.length := by rw [hl]; exact (List.getElem?_eq_some_iff.1 ht).1
  obtain ⟨b, c, q1, q2, q3, q4, q5⟩ := h2 i _ t (List.getElem?_eq_getElem hi) ht
  obtain ⟨b0, e1, e2⟩ := hc i _ (List.getElem?_eq_getElem hi)
  subst e1
  exact ⟨b0, b, c, rfl, h1.lt b0 rfl, by rw [e2, q1], q2, q5⟩

/-- One change more. -/
theorem appOpF {W : World} {ops : Array Oper} {rest : List Oper} {o : Oper} {a : Act} {Q : Exit → Act → World → Prop} (hgd : o.guard = none) (s x : Operand)
    (ho : o.op = .call { callee := .builtin .append, args := #[s, x], argTypes := #[33, 33] }) (z : Nat) (T : List (List OpP)) (L : List OpP) (v u : Value) (hs : a.eval s = u) (hin : OpsIn z T L v u W)
    (b : Nat) (q : OpP) (hx : a.eval x = .slice (some ⟨b, 0, none⟩) 1 1) (hc : ∀ j y, (opCells q)[j]? = some y → W.cell? ⟨b, j, none⟩ = some y) (hlen : L.length < 8) (hz : z ≤ W.heap.size) (w0 : World) (hB : Below z w0 W)
    (h : ∀ u' w', OpsIn z T (L ++ [q]) v u' w' → Below z w0 w' → (∀ p y, u.ownBlock ≠ some p → W.cell? ⟨p, 0, none⟩ = some y → w'.cell? ⟨p, 0, none⟩ = some y) → (∃ ao cap, u' = .slice ao (L.length + 1) cap) → wpList Tryz.prog ops Q rest (a.put o.dst u') w') : wpList Tryz.prog ops Q (o :: rest) a W := by
  obtain ⟨i0, hi, hz0, hz1, hz2⟩ := info_parts infoOpW
  have hn : ∀ j y, (opCells q)[j]? = some y → W.cell? ((⟨b, 0, none⟩ : Addr).add j) = some y := fun j y hy => by
    have : ∀ k, (⟨b, 0, none⟩ : Addr).add k = ⟨b, k, none⟩ := fun k => by unfold Addr.add; split <;> simp_all
    rw [this]; exact hc j y hy
  obtain ⟨u', w', hr, h2, h3, _⟩ := run_append_own (P := Tryz.prog) W z 33 o.type 70 i0 (.agg #[.int .i64 0, .int .i64 0, .string ⟨#[]⟩, .int .i64 0, .int .i64 0, .int .i64 0, .string ⟨#[]⟩]) 7 72 Tryz.underlying33 hi hz0 hz1 hz2 rfl (by decide) u L.length (flatW L) hin.cur ⟨b, 0, none⟩ 1 1 (opCells q) rfl hn (opCells_one q) (by unfold maxLen; omega) (by omega) hz
  have hf := append_fresh (P := Tryz.prog) W z 33 o.type 70 i0 (.agg #[.int .i64 0, .int .i64 0, .string ⟨#[]⟩, .int .i64 0, .int .i64 0, .int .i64 0, .string ⟨#[]⟩]) 7 72 Tryz.underlying33 hi hz0 hz1 hz2 rfl (by decide) u L.length (flatW L) hin.cur ⟨b, 0, none⟩ 1 1 (opCells q) rfl hn (opCells_one q) (by unfold maxLen; omega) (by omega) u' w' hr
  have hrow : w'.ownsRow z 70 7 u' (L ++ [q]).length (flatW (L ++ [q])) := by rw [flatW_snoc, List.length_append]; exact h2
  refine Lib.wpList_append_run W hgd s x 33 33 ho u (.slice (some ⟨b, 0, none⟩) 1 1) hs hx u' w' hr (h u' w' (hin.more hrow h3 hf) (hB.grown h3 hz (fun k hk => (hin.cur.lt k hk).1)) (fun p y hp hc => h3.cell hc fun e => hp e.symm) ?_)
  obtain ⟨ao, cap, e, _⟩ := ownsRow_slice h2
  exact ⟨ao, cap, e⟩
/-- One transaction more. -/
theorem appTxF {W : World} {ops : Array Oper} {rest : List Oper} {o : Oper} {a : Act} {Q : Exit → Act → World → Prop} (hgd : o.guard = none) (s x : Operand)
    (ho : o.op = .call { callee := .builtin .append, args := #[s, x], argTypes := #[28, 28] }) (z : Nat) (T : List (List OpP)) (L : List OpP) (v u : Value) (hs : a.eval s = v) (hin : OpsIn z T L v u W)
    (b : Nat) (hx : a.eval x = .slice (some ⟨b, 0, none⟩) 1 1) (hc : W.cell? ⟨b, 0, none⟩ = some u) (hne : L ≠ []) (hlen : T.length < 1000) (hz : z ≤ W.heap.size) (w0 : World) (hB : Below z w0 W)
    (h : ∀ v' w', OpsIn z (T ++ [L]) [] v' (.slice none 0 0) w' → Below z w0 w' → wpList Tryz.prog ops Q rest (a.put o.dst v') w') : wpList Tryz.prog ops Q (o :: rest) a W := by
  obtain ⟨i0, hi, hz0, hz1, hz2⟩ := info_parts infoOpsW
  obtain ⟨bu, cu, rfl, _⟩ := ownsRow_opsW hin.cur hne
  have hn : ∀ j y, ([.slice (some ⟨bu, 0, none⟩) L.length cu] : List Value)[j]? = some y → W.cell? ((⟨b, 0, none⟩ : Addr).add j) = some y := fun j y hy => by
    have : ∀ k, (⟨b, 0, none⟩ : Addr).add k = ⟨b, k, none⟩ := fun k => by unfold Addr.add; split <;> simp_all
    rw [this]
    match j, hy with
    | 0, hy => simp at hy; subst hy; exact hc
  have h1 : ∀ y ∈ ([.slice (some ⟨bu, 0, none⟩) L.length cu] : List Value), y.oneCell' = true := fun y hy => by simp at hy; subst hy; rfl
  obtain ⟨hs0, hrow, _⟩ := hin.row
  obtain ⟨v', w', hr, h2, h3, _⟩ := run_append_own (P := Tryz.prog) W z 28 o.type 33 i0 (.slice none 0 0) 1 24 Tryz.underlying28 hi hz0 hz1 hz2 rfl (by decide) v T.length hs0 hrow ⟨b, 0, none⟩ 1 1 [.slice (some ⟨bu, 0, none⟩) L.length cu] rfl hn h1 (by unfold maxLen; omega) (by omega) hz
  have hf := append_fresh (P := Tryz.prog) W z 28 o.type 33 i0 (.slice none 0 0) 1 24 Tryz.underlying28 hi hz0 hz1 hz2 rfl (by decide) v T.length hs0 hrow ⟨b, 0, none⟩ 1 1 [.slice (some ⟨bu, 0, none⟩) L.length cu] rfl hn h1 (by unfold maxLen; omega) (by omega) v' w' hr
  refine Lib.wpList_append_run W hgd s x 28 28 ho v (.slice (some ⟨b, 0, none⟩) 1 1) hs hx v' w' hr (h v' w' (hin.done hne (fun hs1 hr1 => ?_) h3 hf) (hB.grown h3 hz (fun k hk => (hrow.lt k hk).1)))
  obtain ⟨v2, w2, hr2, h22, _⟩ := run_append_own (P := Tryz.prog) W z 28 o.type 33 i0 (.slice none 0 0) 1 24 Tryz.underlying28 hi hz0 hz1 hz2 rfl (by decide) v T.length hs1 hr1 ⟨b, 0, none⟩ 1 1 [.slice (some ⟨bu, 0, none⟩) L.length cu] rfl hn h1 (by unfold maxLen; omega) (by omega) hz
  rw [hr] at hr2
  injection hr2 with e1 e2
  subst e1 e2
  exact h22
theorem setOp {w w1 : World} {B g : Nat} {ty : TypeId} {a0 a1 a2 a3 a4 a5 a6 : Value} (hC : Below B w w1) (hB : B ≤ g) (h : w1.heap[g]? = some (.cells #[a0, a1, a2, a3, a4, a5, a6] ty (0, 0))) (v0 v1 v2 v3 v4 v5 v6 : Value) :
    Below B w (((((((w1.setCell ⟨g, 0, none⟩ v0).setCell ⟨g, 1, none⟩ v1).setCell ⟨g, 2, none⟩ v2).setCell ⟨g, 3, none⟩ v3).setCell ⟨g, 4, none⟩ v4).setCell ⟨g, 5, none⟩ v5).setCell ⟨g, 6, none⟩ v6) ∧
    (((((((w1.setCell ⟨g, 0, none⟩ v0).setCell ⟨g, 1, none⟩ v1).setCell ⟨g, 2, none⟩ v2).setCell ⟨g, 3, none⟩ v3).setCell ⟨g, 4, none⟩ v4).setCell ⟨g, 5, none⟩ v5).setCell ⟨g, 6, none⟩ v6).heap[g]? = some (.cells #[v0, v1, v2, v3, v4, v5, v6] ty (0, 0)) :=
  ⟨Below.setCell (Below.setCell (Below.setCell (Below.setCell (Below.setCell (Below.setCell (Below.setCell hC hB _) hB _) hB _) hB _) hB _) hB _) hB _,
   by have := block_set (block_set (block_set (block_set (block_set (block_set (block_set h 0 v0) 1 v1) 2 v2) 3 v3) 4 v4) 5 v5) 6 v6
      simpa using this⟩
theorem opCells_new (V : World) (ty : TypeId) (q : OpP) : ∀ j y, (opCells q)[j]? = some y → (V.alloc (.cells #[.int .i64 q.key.kind, .int .i64 q.key.a, .string q.key.word, .int .i64 q.key.b, .int .i64 q.fr, .int .i64 q.to, .string q.value] ty)).cell? ⟨V.heap.size, j, none⟩ = some y := by
  intro j y h
  have e : (opCells q)[j]? = #[.int .i64 q.key.kind, .int .i64 q.key.a, .string q.key.word, .int .i64 q.key.b, .int .i64 q.fr, .int .i64 q.to, .string q.value][j]? := by simp [opCells]
  rw [e] at h
  simpa using h
theorem strs_cell (V : World) (ty : TypeId) (p : Int) (h0 : 0 ≤ p) (h4 : p < 4) : (V.alloc (.cells #[.string ⟨#[]⟩, .string ⟨#[97]⟩, .string ⟨#[98]⟩, .string ⟨#[99]⟩] ty)).cell? ⟨V.heap.size, p.toNat, none⟩ = some (.string (valN p)) := by
  have : p = 0 ∨ p = 1 ∨ p = 2 ∨ p = 3 := by omega
  rcases this with rfl | rfl | rfl | rfl <;> simp [valN]
def opφ (b f k : Nat) (ls : Value) (n m vv kk ka kb xa xm xv : Int) (kw : ByteArray) (z0 : Nat) (_u : Unit) : Nat → World → Value → Prop := fun i V v => match i with
  | 0 => v = ls
  | 1 => v = .int .i64 (k : Int)
  | 2 => v = .pointer (some ⟨b, f + k * 5, none⟩)
  | 3 => v = .pointer (some ⟨b, f + k * 5, none⟩)
  | 4 => v = .int .i64 n
  | 5 => v = .agg #[.int .i64 kk, .int .i64 ka, .string kw, .int .i64 kb]
  | 6 => v = .int .i64 xa
  | 7 => v = .int .i64 xa
  | 8 => v = .int .i64 (xa + 1)
  | 9 => v = ls
  | 10 => v = .int .i64 (k : Int)
  | 11 => v = .pointer (some ⟨b, f + k * 5, none⟩)
  | 12 => v = .pointer (some ⟨b, f + k * 5 + 2, none⟩)
  | 13 => v = .int .i64 m
  | 14 => v = .int .i64 xm
  | 15 => v = .int .i64 (xa + 1 + xm)
  | 16 => v = .agg #[.int .i64 xa, .int .i64 (xa + 1 + xm)]
  | 17 => ∃ g, v = .slice (some ⟨g, 0, none⟩) 4 4 ∧ g < V.heap.size ∧ ∀ p : Int, 0 ≤ p → p < 4 → V.cell? ⟨g, p.toNat, none⟩ = some (.string (valN p))
  | 18 => v = ls
  | 19 => v = .int .i64 (k : Int)
  | 20 => v = .pointer (some ⟨b, f + k * 5, none⟩)
  | 21 => v = .pointer (some ⟨b, f + k * 5 + 3, none⟩)
  | 22 => v = .int .i64 vv
  | 23 => v = .int .i64 xv
  | 24 => ∃ g, v = .pointer (some ⟨g, xv.toNat, none⟩) ∧ g < V.heap.size ∧ V.cell? ⟨g, xv.toNat, none⟩ = some (.string (valN xv))
  | 25 => v = .string (valN xv)
  | 26 => v = .agg #[.int .i64 kk, .int .i64 ka, .string kw, .int .i64 kb, .int .i64 xa, .int .i64 (xa + 1 + xm), .string (valN xv)]
  | 27 => ∃ g, v = .pointer (some ⟨g, 0, none⟩) ∧ (z0 ≤ g ∧ g < V.heap.size) ∧ V.heap[g]? = some (.cells #[.int .i64 0, .int .i64 0, .string ⟨#[]⟩, .int .i64 0, .int .i64 0, .int .i64 0, .string ⟨#[]⟩] 70 (0, 0))
  | _ => True
theorem opφ_0 (b f k : Nat) (ls : Value) (n m vv kk ka kb xa xm xv : Int) (kw : ByteArray) (z0 : Nat) (u : Unit) (V : World) (v : Value) (h : opφ b f k ls n m vv kk ka kb xa xm xv kw z0 u 0 V v) : v = ls := h
theorem opφ_1 (b f k : Nat) (ls : Value) (n m vv kk ka kb xa xm xv : Int) (kw : ByteArray) (z0 : Nat) (u : Unit) (V : World) (v : Value) (h : opφ b f k ls n m vv kk ka kb xa xm xv kw z0 u 1 V v) : v = .int .i64 (k : Int) := h
theorem opφ_2 (b f k : Nat) (ls : Value) (n m vv kk ka kb xa xm xv : Int) (kw : ByteArray) (z0 : Nat) (u : Unit) (V : World) (v : Value) (h : opφ b f k ls n m vv kk ka kb xa xm xv kw z0 u 2 V v) : v = .pointer (some ⟨b, f + k * 5, none⟩) := h
theorem opφ_3 (b f k : Nat) (ls : Value) (n m vv kk ka kb xa xm xv : Int) (kw : ByteArray) (z0 : Nat) (u : Unit) (V : World) (v : Value) (h : opφ b f k ls n m vv kk ka kb xa xm xv kw z0 u 3 V v) : v = .pointer (some ⟨b, f + k * 5, none⟩) := h
theorem opφ_4 (b f k : Nat) (ls : Value) (n m vv kk ka kb xa xm xv : Int) (kw : ByteArray) (z0 : Nat) (u : Unit) (V : World) (v : Value) (h : opφ b f k ls n m vv kk ka kb xa xm xv kw z0 u 4 V v) : v = .int .i64 n := h
theorem opφ_5 (b f k : Nat) (ls : Value) (n m vv kk ka kb xa xm xv : Int) (kw : ByteArray) (z0 : Nat) (u : Unit) (V : World) (v : Value) (h : opφ b f k ls n m vv kk ka kb xa xm xv kw z0 u 5 V v) : v = .agg #[.int .i64 kk, .int .i64 ka, .string kw, .int .i64 kb] := h
theorem opφ_6 (b f k : Nat) (ls : Value) (n m vv kk ka kb xa xm xv : Int) (kw : ByteArray) (z0 : Nat) (u : Unit) (V : World) (v : Value) (h : opφ b f k ls n m vv kk ka kb xa xm xv kw z0 u 6 V v) : v = .int .i64 xa := h
theorem opφ_7 (b f k : Nat) (ls : Value) (n m vv kk ka kb xa xm xv : Int) (kw : ByteArray) (z0 : Nat) (u : Unit) (V : World) (v : Value) (h : opφ b f k ls n m vv kk ka kb xa xm xv kw z0 u 7 V v) : v = .int .i64 xa := h
theorem opφ_8 (b f k : Nat) (ls : Value) (n m vv kk ka kb xa xm xv : Int) (kw : ByteArray) (z0 : Nat) (u : Unit) (V : World) (v : Value) (h : opφ b f k ls n m vv kk ka kb xa xm xv kw z0 u 8 V v) : v = .int .i64 (xa + 1) := h
theorem opφ_9 (b f k : Nat) (ls : Value) (n m vv kk ka kb xa xm xv : Int) (kw : ByteArray) (z0 : Nat) (u : Unit) (V : World) (v : Value) (h : opφ b f k ls n m vv kk ka kb xa xm xv kw z0 u 9 V v) : v = ls := h
theorem opφ_10 (b f k : Nat) (ls : Value) (n m vv kk ka kb xa xm xv : Int) (kw : ByteArray) (z0 : Nat) (u : Unit) (V : World) (v : Value) (h : opφ b f k ls n m vv kk ka kb xa xm xv kw z0 u 10 V v) : v = .int .i64 (k : Int) := h
theorem opφ_11 (b f k : Nat) (ls : Value) (n m vv kk ka kb xa xm xv : Int) (kw : ByteArray) (z0 : Nat) (u : Unit) (V : World) (v : Value) (h : opφ b f k ls n m vv kk ka kb xa xm xv kw z0 u 11 V v) : v = .pointer (some ⟨b, f + k * 5, none⟩) := h
theorem opφ_12 (b f k : Nat) (ls : Value) (n m vv kk ka kb xa xm xv : Int) (kw : ByteArray) (z0 : Nat) (u : Unit) (V : World) (v : Value) (h : opφ b f k ls n m vv kk ka kb xa xm xv kw z0 u 12 V v) : v = .pointer (some ⟨b, f + k * 5 + 2, none⟩) := h
theorem opφ_13 (b f k : Nat) (ls : Value) (n m vv kk ka kb xa xm xv : Int) (kw : ByteArray) (z0 : Nat) (u : Unit) (V : World) (v : Value) (h : opφ b f k ls n m vv kk ka kb xa xm xv kw z0 u 13 V v) : v = .int .i64 m := h
theorem opφ_14 (b f k : Nat) (ls : Value) (n m vv kk ka kb xa xm xv : Int) (kw : ByteArray) (z0 : Nat) (u : Unit) (V : World) (v : Value) (h : opφ b f k ls n m vv kk ka kb xa xm xv kw z0 u 14 V v) : v = .int .i64 xm := h
theorem opφ_15 (b f k : Nat) (ls : Value) (n m vv kk ka kb xa xm xv : Int) (kw : ByteArray) (z0 : Nat) (u : Unit) (V : World) (v : Value) (h : opφ b f k ls n m vv kk ka kb xa xm xv kw z0 u 15 V v) : v = .int .i64 (xa + 1 + xm) := h
theorem opφ_16 (b f k : Nat) (ls : Value) (n m vv kk ka kb xa xm xv : Int) (kw : ByteArray) (z0 : Nat) (u : Unit) (V : World) (v : Value) (h : opφ b f k ls n m vv kk ka kb xa xm xv kw z0 u 16 V v) : v = .agg #[.int .i64 xa, .int .i64 (xa + 1 + xm)] := h
theorem opφ_17 (b f k : Nat) (ls : Value) (n m vv kk ka kb xa xm xv : Int) (kw : ByteArray) (z0 : Nat) (u : Unit) (V : World) (v : Value) (h : opφ b f k ls n m vv kk ka kb xa xm xv kw z0 u 17 V v) : ∃ g, v = .slice (some ⟨g, 0, none⟩) 4 4 ∧ g < V.heap.size ∧ ∀ p : Int, 0 ≤ p → p < 4 → V.cell? ⟨g, p.toNat, none⟩ = some (.string (valN p)) := h
theorem opφ_18 (b f k : Nat) (ls : Value) (n m vv kk ka kb xa xm xv : Int) (kw : ByteArray) (z0 : Nat) (u : Unit) (V : World) (v : Value) (h : opφ b f k ls n m vv kk ka kb xa xm xv kw z0 u 18 V v) : v = ls := h
theorem opφ_19 (b f k : Nat) (ls : Value) (n m vv kk ka kb xa xm xv : Int) (kw : ByteArray) (z0 : Nat) (u : Unit) (V : World) (v : Value) (h : opφ b f k ls n m vv kk ka kb xa xm xv kw z0 u 19 V v) : v = .int .i64 (k : Int) := h
theorem opφ_20 (b f k : Nat) (ls : Value) (n m vv kk ka kb xa xm xv : Int) (kw : ByteArray) (z0 : Nat) (u : Unit) (V : World) (v : Value) (h : opφ b f k ls n m vv kk ka kb xa xm xv kw z0 u 20 V v) : v = .pointer (some ⟨b, f + k * 5, none⟩) := h
theorem opφ_21 (b f k : Nat) (ls : Value) (n m vv kk ka kb xa xm xv : Int) (kw : ByteArray) (z0 : Nat) (u : Unit) (V : World) (v : Value) (h : opφ b f k ls n m vv kk ka kb xa xm xv kw z0 u 21 V v) : v = .pointer (some ⟨b, f + k * 5 + 3, none⟩) := h
theorem opφ_22 (b f k : Nat) (ls : Value) (n m vv kk ka kb xa xm xv : Int) (kw : ByteArray) (z0 : Nat) (u : Unit) (V : World) (v : Value) (h : opφ b f k ls n m vv kk ka kb xa xm xv kw z0 u 22 V v) : v = .int .i64 vv := h
theorem opφ_23 (b f k : Nat) (ls : Value) (n m vv kk ka kb xa xm xv : Int) (kw : ByteArray) (z0 : Nat) (u : Unit) (V : World) (v : Value) (h : opφ b f k ls n m vv kk ka kb xa xm xv kw z0 u 23 V v) : v = .int .i64 xv := h
theorem opφ_24 (b f k : Nat) (ls : Value) (n m vv kk ka kb xa xm xv : Int) (kw : ByteArray) (z0 : Nat) (u : Unit) (V : World) (v : Value) (h : opφ b f k ls n m vv kk ka kb xa xm xv kw z0 u 24 V v) : ∃ g, v = .pointer (some ⟨g, xv.toNat, none⟩) ∧ g < V.heap.size ∧ V.cell? ⟨g, xv.toNat, none⟩ = some (.string (valN xv)) := h
theorem opφ_25 (b f k : Nat) (ls : Value) (n m vv kk ka kb xa xm xv : Int) (kw : ByteArray) (z0 : Nat) (u : Unit) (V : World) (v : Value) (h : opφ b f k ls n m vv kk ka kb xa xm xv kw z0 u 25 V v) : v = .string (valN xv) := h
theorem opφ_26 (b f k : Nat) (ls : Value) (n m vv kk ka kb xa xm xv : Int) (kw : ByteArray) (z0 : Nat) (u : Unit) (V : World) (v : Value) (h : opφ b f k ls n m vv kk ka kb xa xm xv kw z0 u 26 V v) : v = .agg #[.int .i64 kk, .int .i64 ka, .string kw, .int .i64 kb, .int .i64 xa, .int .i64 (xa + 1 + xm), .string (valN xv)] := h
theorem opφ_27 (b f k : Nat) (ls : Value) (n m vv kk ka kb xa xm xv : Int) (kw : ByteArray) (z0 : Nat) (u : Unit) (V : World) (v : Value) (h : opφ b f k ls n m vv kk ka kb xa xm xv kw z0 u 27 V v) : ∃ g, v = .pointer (some ⟨g, 0, none⟩) ∧ (z0 ≤ g ∧ g < V.heap.size) ∧ V.heap[g]? = some (.cells #[.int .i64 0, .int .i64 0, .string ⟨#[]⟩, .int .i64 0, .int .i64 0, .int .i64 0, .string ⟨#[]⟩] 70 (0, 0)) := h
theorem opφ_mono (b f k : Nat) (ls : Value) (n m vv kk ka kb xa xm xv : Int) (kw : ByteArray) (z0 : Nat) (u : Unit) (i : Nat) (V V' : World) (v : Value) (hb : Below V.heap.size V V') (h : opφ b f k ls n m vv kk ka kb xa xm xv kw z0 u i V v) : opφ b f k ls n m vv kk ka kb xa xm xv kw z0 u i V' v :=
  match i, h with
  | 0, h => h
  | 1, h => h
  | 2, h => h
  | 3, h => h
  | 4, h => h
  | 5, h => h
  | 6, h => h
  | 7, h => h
  | 8, h => h
  | 9, h => h
  | 10, h => h
  | 11, h => h
  | 12, h => h
  | 13, h => h
  | 14, h => h
  | 15, h => h
  | 16, h => h
  | 17, h => let ⟨g, e, h1, h2⟩ := h; ⟨g, e, Nat.lt_of_lt_of_le h1 hb.size, fun p a b => below_cell hb h1 (h2 p a b)⟩
  | 18, h => h
  | 19, h => h
  | 20, h => h
  | 21, h => h
  | 22, h => h
  | 23, h => h
  | 24, h => let ⟨g, e, h1, h2⟩ := h; ⟨g, e, Nat.lt_of_lt_of_le h1 hb.size, below_cell hb h1 h2⟩
  | 25, h => h
  | 26, h => h
  | 27, h => let ⟨g, e, ⟨h0, h1⟩, h2⟩ := h; ⟨g, e, ⟨h0, Nat.lt_of_lt_of_le h1 hb.size⟩, (hb.block g h1).trans h2⟩
  | _ + 28, _ => trivial
theorem opφ_list {X : List Value} (h : X.length = 28) : ∃ x0 x1 x2 x3 x4 x5 x6 x7 x8 x9 x10 x11 x12 x13 x14 x15 x16 x17 x18 x19 x20 x21 x22 x23 x24 x25 x26 x27, X = [x0, x1, x2, x3, x4, x5, x6, x7, x8, x9, x10, x11, x12, x13, x14, x15, x16, x17, x18, x19, x20, x21, x22, x23, x24, x25, x26, x27] :=
  match X, h with | [x0, x1, x2, x3, x4, x5, x6, x7, x8, x9, x10, x11, x12, x13, x14, x15, x16, x17, x18, x19, x20, x21, x22, x23, x24, x25, x26, x27], _ => ⟨x0, x1, x2, x3, x4, x5, x6, x7, x8, x9, x10, x11, x12, x13, x14, x15, x16, x17, x18, x19, x20, x21, x22, x23, x24, x25, x26, x27, rfl⟩
set_option maxRecDepth 100000 in
set_option maxHeartbeats 4000000 in
theorem ops_any (l : List SayP) (ao : Option Addr) (cap : Nat) (w : World) (hl : saysAt w ao l) (hlen : l.length ≤ 100) (hi : ∀ s ∈ l, s.Ok) :
    Calls Tryz.prog 8 #[.slice ao l.length cap] w fun e w' => ∃ v, e = .returned v ∧ TxsAt w' w.heap.size v (opsT l) ∧ Below w.heap.size w w' := by
  have HI := Lib.hid hi
  have HL := Lib.hid hl
  obtain ⟨z, hz⟩ : ∃ z, z = w.heap.size := ⟨_, rfl⟩
  have HZ := Lib.hid hz
  rw [← hz]
  clear hi hl hz
  go_enter Tryz.func8, Tryz.ntmps8
  go_wp2_with fail
  go_loopw [3, 4, 5] (fun v u i wr => ∃ k : Nat, k ≤ l.length ∧ i = .int .i64 k ∧ OpsIn z (stepsT l k).1 (stepsT l k).2 v u wr ∧ Below z w wr) (fun _ _ i _ => l.length - (intOf i).toNat)
  case atStart => exact ⟨0, Nat.zero_le _, rfl, OpsIn.new _ _, by rw [HZ.out]; exact Below.refl _ _⟩
  case round =>
    obtain ⟨k, hk, rfl, hin, hB⟩ := hrel
    have hzs : z ≤ wr.heap.size := by rw [HZ.out]; exact hB.size
    by_cases hlt : k < l.length
    · obtain ⟨b, f, n, a, m, vv, la, g1, rfl, hbz, c0, c1, c2, c3, c4⟩ := saysAt_get HL.out hlt
      rw [← HZ.out] at hbz
      have hb : b < wr.heap.size := Nat.lt_of_lt_of_le hbz hzs
      have cw := Lib.hid c4
      clear c4
      replace c0 := below_cell hB hbz c0
      replace c1 := below_cell hB hbz c1
      replace c2 := below_cell hB hbz c2
      replace c3 := below_cell hB hbz c3
      have hok := HI.out _ (List.mem_of_getElem? g1.out)
      have hst := Lib.hid (stepsT_succ g1.out)
      have hso := stepsT_ok l k
      have hT : (stepsT l k).1.length < 1000 := by have := hso.len; omega
      have h8 := hso.cur
      have kn := fun W => keyOf_any n W hok.key
      have pa := fun W => pick_any a 50 W hok.fr.1 (by have := hok.fr.2; simp only at this; omega) (by decide) (by decide)
      have pm := fun W => pick_any m 20 W hok.many.1 (by have := hok.many.2; simp only at this; omega) (by decide) (by decide)
      have pv := fun W => pick_any vv 4 W hok.value.1 (by have := hok.value.2; simp only at this; omega) (by decide) (by decide)
      have pl := fun W => pick_any la 2 W hok.last.1 (by have := hok.last.2; simp only at this; omega) (by decide) (by decide)
      have ra := pickI_lt a 50 (by decide) (by decide)
      have rm := pickI_lt m 20 (by decide) (by decide)
      have rv := pickI_lt vv 4 (by decide) (by decide)
      have rl := pickI_lt la 2 (by decide) (by decide)
      have hop : sayOp ⟨n, a, m, vv, la⟩ = ⟨keyP n, pickI a 50, pickI a 50 + 1 + pickI m 20, valN (pickI vv 4)⟩ := rfl
      have hen : ∀ j, endsB l.length j k la = (decide (j = 8) || (decide (pickI la 2 = 0) || decide (k + 1 = l.length))) := fun j => rfl
      have hstep : stepT l.length k (stepsT l k) ⟨n, a, m, vv, la⟩ = if endsB l.length ((stepsT l k).2.length + 1) k la then ((stepsT l k).1 ++ [(stepsT l k).2 ++ [sayOp ⟨n, a, m, vv, la⟩]], []) else ((stepsT l k).1, (stepsT l k).2 ++ [sayOp ⟨n, a, m, vv, la⟩]) := rfl
      rw [hstep, hop, hen] at hst
      clear hstep hop hen hso hok
      generalize pickI a 50 = xa at *
      generalize pickI m 20 = xm at *
      generalize pickI vv 4 = xv at *
      generalize pickI la 2 = xl at *
      generalize stepsT l k = S0 at *
      obtain ⟨T, L⟩ := S0
      generalize keyP n = K at *
      obtain ⟨kk, ka, kw, kb⟩ := K
      simp only at hin hT h8 hst kn
      have HIN := Lib.hid hin
      have HB := Lib.hid hB
      clear hin hB
      have KN := Lib.hid kn
      have PM := Lib.hid pm
      have PV := Lib.hid pv
      clear kn pm pv
      go_wp2_with fail
      refine (pa _).mono ?_
      rintro e w1 ⟨rfl, rfl⟩
      go_wp2_with fail
      have i0 : (0 : Int) ≤ (k : Int) := by omega
      have i1 : (k : Int) < (l.length : Int) := by omega
      obtain ⟨ls, hls⟩ : ∃ ls, ls = Value.slice (some ⟨b, f, none⟩) l.length cap := ⟨_, rfl⟩
      have HLS := Lib.hid hls
      obtain ⟨z0, hz0⟩ : ∃ z0, z0 = wr.heap.size := ⟨_, rfl⟩
      have HZ0 := Lib.hid hz0
      rw [← hls]
      clear hls hz0
      rename_i hKK
      refine wp_region_dag_one 7 20 27 _ (fun V => Below wr.heap.size wr V) (fun V V' => Below V.heap.size V V') (opφ b f k ls n m vv kk ka kb xa xm xv kw z0 ()) rfl (by kernel_rfl) rfl (by decide) (by kernel_rfl) ?_ rfl rfl (Below.refl _ _).drew ?_ ?_
      · exact fun i V V' v _ _ hb h => opφ_mono _ _ _ _ _ _ _ _ _ _ _ _ _ _ _ _ i V V' v hb h
      · simp only [List.take_succ_cons, List.take_zero, DagStepsS, and_true]
        refine ⟨?_, ?_, ?_, ?_, ?_, ?_, ?_, ?_, ?_, ?_, ?_, ?_, ?_, ?_, ?_, ?_, ?_, ?_, ?_, ?_, ?_, ?_, ?_, ?_, ?_, ?_, ?_, ?_⟩
        · intro A V K hC hP hd hK
          have p0 : A.tmps[0]?.getD undef = ls := evalT (hP 0 (of_decide_eq_true rfl))
          clear hP hd
          unfold Oper.wp
          go_simp
          exact hK _ _ hC (Below.refl _ _) rfl
        · intro A V K hC hP hd hK
          have p5 : A.tmps[5]?.getD undef = .int .i64 (k : Int) := evalT (hP 5 (of_decide_eq_true rfl))
          clear hP hd
          unfold Oper.wp
          go_simp
          exact hK _ _ hC (Below.refl _ _) rfl
        · intro A V K hC hP hd hK
          have e0 : A.tmps[20]?.getD undef = ls := evalT (opφ_0 _ _ _ _ _ _ _ _ _ _ _ _ _ _ _ _ _ _ (hd 0 (by kernel_rfl)))
          have e1 : A.tmps[21]?.getD undef = .int .i64 (k : Int) := evalT (opφ_1 _ _ _ _ _ _ _ _ _ _ _ _ _ _ _ _ _ _ (hd 1 (by kernel_rfl)))
          rw [HLS.out] at e0
          clear hP hd
          unfold Oper.wp
          go_simp
          exact hK _ _ hC (Below.refl _ _) rfl
        · intro A V K hC hP hd hK
          have e2 : A.tmps[22]?.getD undef = .pointer (some ⟨b, f + k * 5, none⟩) := evalT (opφ_2 _ _ _ _ _ _ _ _ _ _ _ _ _ _ _ _ _ _ (hd 2 (by kernel_rfl)))
          clear hP hd
          unfold Oper.wp
          go_simp
          exact hK _ _ hC (Below.refl _ _) rfl
        · intro A V K hC hP hd hK
          have e3 : A.tmps[23]?.getD undef = .pointer (some ⟨b, f + k * 5, none⟩) := evalT (opφ_3 _ _ _ _ _ _ _ _ _ _ _ _ _ _ _ _ _ _ (hd 3 (by kernel_rfl)))
          have d := below_cell hC hb c0
          clear hP hd
          unfold Oper.wp
          go_simp
          exact hK _ _ hC (Below.refl _ _) rfl
        · intro A V K hC hP hd hK
          have e4 : A.tmps[24]?.getD undef = .int .i64 n := evalT (opφ_4 _ _ _ _ _ _ _ _ _ _ _ _ _ _ _ _ _ _ (hd 4 (by kernel_rfl)))
          clear hP hd
          unfold Oper.wp
          go_simp
          refine (KN.out V).mono ?_
          rintro e w1 ⟨rfl, h1⟩
          exact hK _ _ (below_trans hC hC.size h1) h1 rfl
        · intro A V K hC hP hd hK
          have p6 : A.tmps[6]?.getD undef = .int .i64 xa := evalT (hP 6 (of_decide_eq_true rfl))
          clear hP hd
          unfold Oper.wp
          go_simp
          exact hK _ _ hC (Below.refl _ _) rfl
        · intro A V K hC hP hd hK
          have p6 : A.tmps[6]?.getD undef = .int .i64 xa := evalT (hP 6 (of_decide_eq_true rfl))
          clear hP hd
          unfold Oper.wp
          go_simp
          exact hK _ _ hC (Below.refl _ _) rfl
        · intro A V K hC hP hd hK
          have e7 : A.tmps[27]?.getD undef = .int .i64 xa := evalT (opφ_7 _ _ _ _ _ _ _ _ _ _ _ _ _ _ _ _ _ _ (hd 7 (by kernel_rfl)))
          clear hP hd
          unfold Oper.wp
          go_simp
          exact hK _ _ hC (Below.refl _ _) (congrArg (Value.int .i64) (IntWalk.i64_in _ (by omega)))
        · intro A V K hC hP hd hK
          have p0 : A.tmps[0]?.getD undef = ls := evalT (hP 0 (of_decide_eq_true rfl))
          clear hP hd
          unfold Oper.wp
          go_simp
          exact hK _ _ hC (Below.refl _ _) rfl
        · intro A V K hC hP hd hK
          have p5 : A.tmps[5]?.getD undef = .int .i64 (k : Int) := evalT (hP 5 (of_decide_eq_true rfl))
          clear hP hd
          unfold Oper.wp
          go_simp
          exact hK _ _ hC (Below.refl _ _) rfl
        · intro A V K hC hP hd hK
          have e9 : A.tmps[29]?.getD undef = ls := evalT (opφ_9 _ _ _ _ _ _ _ _ _ _ _ _ _ _ _ _ _ _ (hd 9 (by kernel_rfl)))
          have e10 : A.tmps[30]?.getD undef = .int .i64 (k : Int) := evalT (opφ_10 _ _ _ _ _ _ _ _ _ _ _ _ _ _ _ _ _ _ (hd 10 (by kernel_rfl)))
          rw [HLS.out] at e9
          clear hP hd
          unfold Oper.wp
          go_simp
          exact hK _ _ hC (Below.refl _ _) rfl
        · intro A V K hC hP hd hK
          have e11 : A.tmps[31]?.getD undef = .pointer (some ⟨b, f + k * 5, none⟩) := evalT (opφ_11 _ _ _ _ _ _ _ _ _ _ _ _ _ _ _ _ _ _ (hd 11 (by kernel_rfl)))
          clear hP hd
          unfold Oper.wp
          go_simp
          exact hK _ _ hC (Below.refl _ _) rfl
        · intro A V K hC hP hd hK
          have e12 : A.tmps[32]?.getD undef = .pointer (some ⟨b, f + k * 5 + 2, none⟩) := evalT (opφ_12 _ _ _ _ _ _ _ _ _ _ _ _ _ _ _ _ _ _ (hd 12 (by kernel_rfl)))
          have d := below_cell hC hb c2
          clear hP hd
          unfold Oper.wp
          go_simp
          exact hK _ _ hC (Below.refl _ _) rfl
        · intro A V K hC hP hd hK
          have e13 : A.tmps[33]?.getD undef = .int .i64 m := evalT (opφ_13 _ _ _ _ _ _ _ _ _ _ _ _ _ _ _ _ _ _ (hd 13 (by kernel_rfl)))
          clear hP hd
          unfold Oper.wp
          go_simp
          refine (PM.out V).mono ?_
          rintro e w1 ⟨rfl, rfl⟩
          exact hK _ _ hC (Below.refl _ _) rfl
        · intro A V K hC hP hd hK
          have e8 : A.tmps[28]?.getD undef = .int .i64 (xa + 1) := evalT (opφ_8 _ _ _ _ _ _ _ _ _ _ _ _ _ _ _ _ _ _ (hd 8 (by kernel_rfl)))
          have e14 : A.tmps[34]?.getD undef = .int .i64 xm := evalT (opφ_14 _ _ _ _ _ _ _ _ _ _ _ _ _ _ _ _ _ _ (hd 14 (by kernel_rfl)))
          clear hP hd
          unfold Oper.wp
          go_simp
          exact hK _ _ hC (Below.refl _ _) (congrArg (Value.int .i64) (IntWalk.i64_in _ (by omega)))
        · intro A V K hC hP hd hK
          have e6 : A.tmps[26]?.getD undef = .int .i64 xa := evalT (opφ_6 _ _ _ _ _ _ _ _ _ _ _ _ _ _ _ _ _ _ (hd 6 (by kernel_rfl)))
          have e15 : A.tmps[35]?.getD undef = .int .i64 (xa + 1 + xm) := evalT (opφ_15 _ _ _ _ _ _ _ _ _ _ _ _ _ _ _ _ _ _ (hd 15 (by kernel_rfl)))
          clear hP hd
          unfold Oper.wp
          go_simp
          exact hK _ _ hC (Below.refl _ _) rfl
        · intro A V K hC hP hd hK
          clear hP hd
          unfold Oper.wp
          go_simp
          exact hK _ _ (hC.alloc hC.size _) ((Below.refl _ _).alloc (Nat.le_refl _) _) ⟨_, rfl, by simp, fun p a b => strs_cell V _ p a b⟩
        · intro A V K hC hP hd hK
          have p0 : A.tmps[0]?.getD undef = ls := evalT (hP 0 (of_decide_eq_true rfl))
          clear hP hd
          unfold Oper.wp
          go_simp
          exact hK _ _ hC (Below.refl _ _) rfl
        · intro A V K hC hP hd hK
          have p5 : A.tmps[5]?.getD undef = .int .i64 (k : Int) := evalT (hP 5 (of_decide_eq_true rfl))
          clear hP hd
          unfold Oper.wp
          go_simp
          exact hK _ _ hC (Below.refl _ _) rfl
        · intro A V K hC hP hd hK
          have e18 : A.tmps[38]?.getD undef = ls := evalT (opφ_18 _ _ _ _ _ _ _ _ _ _ _ _ _ _ _ _ _ _ (hd 18 (by kernel_rfl)))
          have e19 : A.tmps[39]?.getD undef = .int .i64 (k : Int) := evalT (opφ_19 _ _ _ _ _ _ _ _ _ _ _ _ _ _ _ _ _ _ (hd 19 (by kernel_rfl)))
          rw [HLS.out] at e18
          clear hP hd
          unfold Oper.wp
          go_simp
          exact hK _ _ hC (Below.refl _ _) rfl
        · intro A V K hC hP hd hK
          have e20 : A.tmps[40]?.getD undef = .pointer (some ⟨b, f + k * 5, none⟩) := evalT (opφ_20 _ _ _ _ _ _ _ _ _ _ _ _ _ _ _ _ _ _ (hd 20 (by kernel_rfl)))
          clear hP hd
          unfold Oper.wp
          go_simp
          exact hK _ _ hC (Below.refl _ _) rfl
        · intro A V K hC hP hd hK
          have e21 : A.tmps[41]?.getD undef = .pointer (some ⟨b, f + k * 5 + 3, none⟩) := evalT (opφ_21 _ _ _ _ _ _ _ _ _ _ _ _ _ _ _ _ _ _ (hd 21 (by kernel_rfl)))
          have d := below_cell hC hb c3
          clear hP hd
          unfold Oper.wp
          go_simp
          exact hK _ _ hC (Below.refl _ _) rfl
        · intro A V K hC hP hd hK
          have e22 : A.tmps[42]?.getD undef = .int .i64 vv := evalT (opφ_22 _ _ _ _ _ _ _ _ _ _ _ _ _ _ _ _ _ _ (hd 22 (by kernel_rfl)))
          clear hP hd
          unfold Oper.wp
          go_simp
          refine (PV.out V).mono ?_
          rintro e w1 ⟨rfl, rfl⟩
          exact hK _ _ hC (Below.refl _ _) rfl
        · intro A V K hC hP hd hK
          have h17 := hd 17 (by kernel_rfl)
          have h17 := opφ_17 _ _ _ _ _ _ _ _ _ _ _ _ _ _ _ _ _ _ h17
          obtain ⟨g, eg, hg, hgc⟩ := h17
          have e17 := evalT (t := 37) eg
          have e23 : A.tmps[43]?.getD undef = .int .i64 xv := evalT (opφ_23 _ _ _ _ _ _ _ _ _ _ _ _ _ _ _ _ _ _ (hd 23 (by kernel_rfl)))
          have h1 := hgc xv rv.1 rv.2
          clear hgc
          obtain ⟨r0, r4⟩ := rv
          clear hP hd
          unfold Oper.wp
          go_simp
          exact hK _ _ hC (Below.refl _ _) ⟨g, by first | rfl | simp, hg, h1⟩
        · intro A V K hC hP hd hK
          have h24 := hd 24 (by kernel_rfl)
          have h24 := opφ_24 _ _ _ _ _ _ _ _ _ _ _ _ _ _ _ _ _ _ h24
          obtain ⟨g, eg, hg, hgc⟩ := h24
          have e24 := evalT (t := 44) eg
          clear hP hd
          unfold Oper.wp
          go_simp
          exact hK _ _ hC (Below.refl _ _) rfl
        · intro A V K hC hP hd hK
          have e5 : A.tmps[25]?.getD undef = .agg #[.int .i64 kk, .int .i64 ka, .string kw, .int .i64 kb] := evalT (opφ_5 _ _ _ _ _ _ _ _ _ _ _ _ _ _ _ _ _ _ (hd 5 (by kernel_rfl)))
          have e16 : A.tmps[36]?.getD undef = .agg #[.int .i64 xa, .int .i64 (xa + 1 + xm)] := evalT (opφ_16 _ _ _ _ _ _ _ _ _ _ _ _ _ _ _ _ _ _ (hd 16 (by kernel_rfl)))
          have e25 : A.tmps[45]?.getD undef = .string (valN xv) := evalT (opφ_25 _ _ _ _ _ _ _ _ _ _ _ _ _ _ _ _ _ _ (hd 25 (by kernel_rfl)))
          clear hP hd
          unfold Oper.wp
          go_simp
          exact hK _ _ hC (Below.refl _ _) rfl
        · intro A V K hC hP hd hK
          clear hP hd
          unfold Oper.wp
          go_simp
          exact hK _ _ (hC.alloc hC.size _) ((Below.refl _ _).alloc (Nat.le_refl _) _) ⟨_, rfl, ⟨by rw [HZ0.out]; exact hC.size, by simp⟩, heap_alloc_new _ _⟩
      · intro X w1 hX hC hφ
        obtain ⟨x0, x1, x2, x3, x4, x5, x6, x7, x8, x9, x10, x11, x12, x13, x14, x15, x16, x17, x18, x19, x20, x21, x22, x23, x24, x25, x26, x27, rfl⟩ := opφ_list hX
        have e26 : x26 = _ := opφ_26 _ _ _ _ _ _ _ _ _ _ _ _ _ _ _ _ _ _ (hφ 26 (of_decide_eq_true rfl))
        have e27 := opφ_27 _ _ _ _ _ _ _ _ _ _ _ _ _ _ _ _ _ _ (hφ 27 (of_decide_eq_true rfl))
        obtain ⟨g, e27, ⟨hg0, hg⟩, hgc⟩ := e27
        have e27 : x27 = _ := e27
        subst e26 e27
        clear hφ hX
        unfold frOne
        simp only [List.take_succ_cons, List.take_zero, List.drop_succ_cons, List.drop_zero, List.set_cons_succ, List.set_cons_zero, List.cons_append, List.nil_append, List.getD_cons_succ, List.getD_cons_zero]
        unfold Oper.wp
        have y0 : w1.cell? ⟨g, 0, none⟩ = some (.int .i64 0) := by simp [World.cell?, hgc]
        have z0 : w1.frozen? ⟨g, 0, none⟩ = false := by simp [World.frozen?, hgc]
        have y1 : w1.cell? ⟨g, 1, none⟩ = some (.int .i64 0) := by simp [World.cell?, hgc]
        have z1 : w1.frozen? ⟨g, 1, none⟩ = false := by simp [World.frozen?, hgc]
        have y2 : w1.cell? ⟨g, 2, none⟩ = some (.string ⟨#[]⟩) := by simp [World.cell?, hgc]
        have z2 : w1.frozen? ⟨g, 2, none⟩ = false := by simp [World.frozen?, hgc]
        have y3 : w1.cell? ⟨g, 3, none⟩ = some (.int .i64 0) := by simp [World.cell?, hgc]
        have z3 : w1.frozen? ⟨g, 3, none⟩ = false := by simp [World.frozen?, hgc]
        have y4 : w1.cell? ⟨g, 4, none⟩ = some (.int .i64 0) := by simp [World.cell?, hgc]
        have z4 : w1.frozen? ⟨g, 4, none⟩ = false := by simp [World.frozen?, hgc]
        have y5 : w1.cell? ⟨g, 5, none⟩ = some (.int .i64 0) := by simp [World.cell?, hgc]
        have z5 : w1.frozen? ⟨g, 5, none⟩ = false := by simp [World.frozen?, hgc]
        have y6 : w1.cell? ⟨g, 6, none⟩ = some (.string ⟨#[]⟩) := by simp [World.cell?, hgc]
        have z6 : w1.frozen? ⟨g, 6, none⟩ = false := by simp [World.frozen?, hgc]
        go_simp
        refine hKK _ _ ?_
        have hF := setOp hC (by rw [← HZ0.out]; exact hg0) hgc (.int .i64 kk) (.int .i64 ka) (.string kw) (.int .i64 kb) (.int .i64 xa) (.int .i64 (xa + 1 + xm)) (.string (valN xv))
        generalize hW2 : ((((((w1.setCell ⟨g, 0, none⟩ (.int .i64 kk)).setCell ⟨g, 1, none⟩ (.int .i64 ka)).setCell ⟨g, 2, none⟩ (.string kw)).setCell ⟨g, 3, none⟩ (.int .i64 kb)).setCell ⟨g, 4, none⟩ (.int .i64 xa)).setCell ⟨g, 5, none⟩ (.int .i64 (xa + 1 + xm))).setCell ⟨g, 6, none⟩ (.string (valN xv)) = W2 at hF ⊢
        obtain ⟨b2, hh⟩ := hF
        clear hW2 hgc y0 z0 y1 z1 y2 z2 y3 z3 y4 z4 y5 z5 y6 z6
        have y0 : W2.cell? ⟨g, 0, none⟩ = some (.int .i64 kk) := by simp [World.cell?, hh]
        have y1 : W2.cell? ⟨g, 1, none⟩ = some (.int .i64 ka) := by simp [World.cell?, hh]
        have y2 : W2.cell? ⟨g, 2, none⟩ = some (.string kw) := by simp [World.cell?, hh]
        have y3 : W2.cell? ⟨g, 3, none⟩ = some (.int .i64 kb) := by simp [World.cell?, hh]
        have y4 : W2.cell? ⟨g, 4, none⟩ = some (.int .i64 xa) := by simp [World.cell?, hh]
        have y5 : W2.cell? ⟨g, 5, none⟩ = some (.int .i64 (xa + 1 + xm)) := by simp [World.cell?, hh]
        have y6 : W2.cell? ⟨g, 6, none⟩ = some (.string (valN xv)) := by simp [World.cell?, hh]
        rw [HLS.out]
        have gs : g < W2.heap.size := by have := (Array.getElem?_eq_some_iff.1 hh).1; exact this
        clear hh
        have hBz : Below z w W2 := HB.out.trans (b2.mono hzs)
        have hz2 : z ≤ W2.heap.size := Nat.le_trans hzs b2.size
        have HIN2 := Lib.hid (HIN.out.below b2)
        have HBZ := Lib.hid hBz
        clear hBz b2 hC
        have hcl : ∀ j y, (opCells ⟨⟨kk, ka, kw, kb⟩, xa, xa + 1 + xm, valN xv⟩)[j]? = some y → (W2.alloc (.cells #[.int .i64 kk, .int .i64 ka, .string kw, .int .i64 kb, .int .i64 xa, .int .i64 (xa + 1 + xm), .string (valN xv)] 70)).cell? ⟨W2.heap.size, j, none⟩ = some y := opCells_new _ _ _
        obtain ⟨q, hq⟩ : ∃ q : OpP, q = ⟨⟨kk, ka, kw, kb⟩, xa, xa + 1 + xm, valN xv⟩ := ⟨_, rfl⟩
        rw [← hq] at hcl hst
        clear hq
        have HCL := Lib.hid hcl
        clear hcl i0 i1
        have hcases : (L.length = 7) ∨ (¬ L.length = 7 ∧ xl = 0) ∨ (¬ L.length = 7 ∧ ¬ xl = 0 ∧ k + 1 = l.length) ∨ (¬ L.length = 7 ∧ ¬ xl = 0 ∧ ¬ k + 1 = l.length) := by omega
        have PL := Lib.hid pl
        clear pl
        rcases hcases with hA | ⟨hA, hX⟩ | ⟨hA, hX, hY⟩ | ⟨hA, hX, hY⟩
        case' inl => have hs1 := Lib.hid (hst.out.trans (if_pos (by rw [hA]; rfl)))
        case' inr.inl => have hs1 := Lib.hid (hst.out.trans (if_pos (by simp [hX])))
        case' inr.inr.inl => have hs1 := Lib.hid (hst.out.trans (if_pos (by simp [hY])))
        case' inr.inr.inr => have hs1 := Lib.hid (hst.out.trans (if_neg (by simp [hA, hX, hY])))
        all_goals
          clear hst
          go_wp2_with (first
            | (at_builtin; refine appOpF rfl _ _ rfl z T L u3 u4 rfl (HIN2.out.below ((Below.refl _ _).alloc (Nat.le_refl _) _)) W2.heap.size q rfl HCL.out h8 (by simp; omega) w (HBZ.out.alloc hz2 _) ?_; intro u' w3 h3 hB3 _ hl3; obtain ⟨ao3, cap3, rfl⟩ := hl3; have c4 := below_cell hB3 hbz cw.out; have hz3 : z ≤ w3.heap.size := (by have := hB3.size; rw [HZ.out]; exact this); have H3 := Lib.hid h3; have HB3 := Lib.hid hB3; clear h3 hB3)
            | (go_at_call 11; (with_reducible refine (PL.out _).mono ?_); rintro e w4 ⟨rfl, rfl⟩)
            | (at_builtin; refine appTxF rfl _ _ rfl z T (L ++ [q]) u3 _ rfl (H3.out.below ((Below.refl _ _).alloc (Nat.le_refl _) _)) w3.heap.size rfl (by first | (simp; done) | simp [hA]) (by simp) hT (by simp; omega) w (HB3.out.alloc hz3 _) ?_; intro v' w4 h4 hB4; have H4 := Lib.hid h4; have HB4 := Lib.hid hB4; clear h4 hB4))
        all_goals first
          | (exfalso; rename_i hq; simp at hq; omega)
          | (refine ⟨⟨k + 1, by omega, by go_num, ?_, HB4.out⟩, by simp [intOf]; omega⟩; rw [hs1.out]; exact H4.out)
          | (refine ⟨⟨k + 1, by omega, by go_num, ?_, HB3.out⟩, by simp [intOf]; omega⟩; rw [hs1.out]; exact H3.out)
    · obtain rfl : k = l.length := by omega
      have HT := Lib.hid hin.txs
      have HB := Lib.hid hB
      clear hin hB
      go_wp2_with fail
      go_ret
      exact ⟨_, rfl, HT.out, HB.out⟩
end Go.Proofs.YtflhpmgjehjjkaaGreatDoor
