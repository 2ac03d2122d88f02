/- PastStays: the closure: what is told of a count, time by time. -/
import Derived.Lib.AppendZeros
import Derived.Test.YtacedfcckkpciaaGreatDoorPsAK
import Derived.Test.YtacedfcckkpciaaGreatDoorApFK
import Derived.Test.YtacedfcckkpciaaGreatDoorStNK
import Derived.Test.YtacedfcckkpciaaGreatDoorPsEK
namespace Go.Proofs.YtacedfcckkpciaaGreatDoor
open Go.RowKit Go.Deep Go.Shelf Go.Sort Go.Maps

def textsIn (w : World) (b : Nat) (l : List ByteArray) : Prop := ∀ (i : Nat) x, l[i]? = some x → w.cell? ⟨b, i, none⟩ = some (.string x)
theorem textsIn.same {w w' : World} {b : Nat} {l : List ByteArray} (h : textsIn w b l) (hb : w'.heap[b]? = w.heap[b]?) : textsIn w' b l := fun i x hi =>
  (World.cell?_of_block (a := ⟨b, i, none⟩) hb).trans (h i x hi)
theorem ownsRow_same {w w' : World} {base : Nat} {e : TypeId} {size : Nat} {v : Value} {n : Nat} {xs : List Value} (h : w.ownsRow base e size v n xs) (hb : ∀ p, v.ownBlock = some p → w'.heap[p]? = w.heap[p]?) : w'.ownsRow base e size v n xs :=
  ⟨h.1, h.2.imp id fun ⟨g, cap, cur, h1, h2, h3, h4⟩ => ⟨g, cap, cur, h1, h2, (hb g (by rw [h1]; rfl)).trans h3, h4⟩⟩
/-- Rows of texts, in blocks of their own, none of them in F. -/
structure RowsIn (z : Nat) (T : List (List ByteArray)) (F : Nat → Prop) (v : Value) (w : World) : Prop where
  row : ∃ hs : List Value, w.ownsRow z 32 1 v T.length hs ∧ ∀ (i : Nat) (h : Value) (t : List ByteArray), hs[i]? = some h → T[i]? = some t → ∃ b cap, h = .slice (some ⟨b, 0, none⟩) t.length cap ∧ (z ≤ b ∧ b < w.heap.size) ∧ Apart v b ∧ ¬ F b ∧ textsIn w b t
  ap : ∀ p, v.ownBlock = some p → ¬ F p
theorem RowsIn.nil (z : Nat) (F : Nat → Prop) (w : World) : RowsIn z [] F (.slice none 0 0) w := ⟨⟨[], World.ownsRow_nil _ _ _ _, fun i h t hi => by cases hi⟩, fun p hp => by cases hp⟩
/-- Blocks of F are turned; F has new ones. -/
theorem RowsIn.turn {z : Nat} {T : List (List ByteArray)} {F F' : Nat → Prop} {v : Value} {w w' : World} (h : RowsIn z T F v w) (hf : Fr F w w') (hG : ∀ k, F' k → F k ∨ w.heap.size ≤ k) : RowsIn z T F' v w' := by
  obtain ⟨⟨hs, h1, h2⟩, h3⟩ := h
  have hv : ∀ p, v.ownBlock = some p → p < w.heap.size := fun p hp => (h1.lt p hp).2
  refine ⟨⟨hs, ownsRow_same h1 fun p hp => hf.block p (hv p hp) (h3 p hp), fun i hd t hi ht => ?_⟩, fun p hp hF => ?_⟩
  · obtain ⟨b, cap, q1, q2, q3, q4, q5⟩ := h2 i hd t hi ht
    refine ⟨b, cap, q1, ⟨q2.1, Nat.lt_of_lt_of_le q2.2 hf.size⟩, q3, fun hF => ?_, q5.same (hf.block b q2.2 q4)⟩
    rcases hG b hF with h | h
    · exact q4 h
    · omega
  · rcases hG p hF with h | h
    · exact h3 p hp h
    · have := hv p hp; omega
theorem RowsIn.below {z : Nat} {T : List (List ByteArray)} {F : Nat → Prop} {v : Value} {w w' : World} (h : RowsIn z T F v w) (hb : Below w.heap.size w w') : RowsIn z T F v w' :=
  h.turn (Fr.new hb) fun _ h => .inl h
/-- A row's slice; a text of it. -/
theorem RowsIn.get {z : Nat} {T : List (List ByteArray)} {F : Nat → Prop} {v : Value} {w : World} (h : RowsIn z T F v w) : ∃ ao cap, v = .slice ao T.length cap ∧ ∀ i t, T[i]? = some t → ∃ b0 b c, ao = some ⟨b0, 0, none⟩ ∧ b0 < w.heap.size ∧ w.cell? ⟨b0, i, none⟩ = some (.slice (some ⟨b, 0, none⟩) t.length c) ∧ b < w.heap.size ∧ textsIn w b t := by
  obtain ⟨⟨hs, h1, h2⟩, h3⟩ := h
  have hl : hs.length = T.length := by have := h1.1; omega
  obtain ⟨ao, cap, rfl, _, hc⟩ := ownsRow_slice h1
  refine ⟨ao, cap, rfl, fun i t ht => ?_⟩
  have hi : i < hs.length := by rw [hl]; exact (List.getElem?_eq_some_iff.1 ht).1
  obtain ⟨b, c, q1, q2, q3, q4, q5⟩ := h2 i _ t (List.getElem?_eq_getElem hi) ht
  obtain ⟨b0, e1, e2⟩ := hc i _ (List.getElem?_eq_getElem hi)
  subst e1
  exact ⟨b0, b, c, rfl, (h1.lt b0 rfl).2, by rw [e2, q1], q2.2, q5⟩
theorem infoTextsW : (Tryz.prog.info? 32).map (fun i => (i.zero, i.size, i.bytes)) = some (some (.slice none 0 0), 1, 24) := by kernel_rfl

/-- One row more. -/
theorem appRowF {W : World} {ops : Array Oper} {rest : List Oper} {o : Oper} {a : Act} {Q : Exit → Act → World → Prop} (hgd : o.guard = none) (s x : Operand)
    (ho : o.op = .call { callee := .builtin .append, args := #[s, x], argTypes := #[31, 31] }) (z : Nat) (T : List (List ByteArray)) (F : Nat → Prop) (v : Value) (hs : a.eval s = v) (hin : RowsIn z T F v W)
    (b : Nat) (hx : a.eval x = .slice (some ⟨b, 0, none⟩) 1 1) (t : List ByteArray) (bu cu : Nat) (hc : W.cell? ⟨b, 0, none⟩ = some (.slice (some ⟨bu, 0, none⟩) t.length cu)) (hu : (z ≤ bu ∧ bu < W.heap.size) ∧ Apart v bu ∧ ¬ F bu ∧ textsIn W bu t) (hFl : ∀ k, F k → k < W.heap.size) (hlen : T.length < 1000) (hz : z ≤ W.heap.size)
    (h : ∀ v' w', RowsIn z (T ++ [t]) F v' w' → Fr (fun k => v.ownBlock = some k) W w' → (∀ p, v'.ownBlock = some p → v.ownBlock = some p ∨ W.heap.size ≤ p) → wpList Tryz.prog ops Q rest (a.put o.dst v') w') : wpList Tryz.prog ops Q (o :: rest) a W := by
  obtain ⟨i0, hi, hz0, hz1, hz2⟩ := info_parts infoTextsW
  have hn : ∀ j y, ([.slice (some ⟨bu, 0, none⟩) t.length cu] : List Value)[j]? = some y → W.cell? ((⟨b, 0, none⟩ : Addr).add j) = some y := fun j y hy => by
    have : ∀ k, (⟨b, 0, none⟩ : Addr).add k = ⟨b, k, none⟩ := fun k => by unfold Addr.add; split <;> simp_all
    rw [this]
    match j, hy with
    | 0, hy => simp at hy; subst hy; exact hc
  have h1 : ∀ y ∈ ([.slice (some ⟨bu, 0, none⟩) t.length cu] : List Value), y.oneCell' = true := fun y hy => by simp at hy; subst hy; rfl
  obtain ⟨⟨hs0, hrow, hget⟩, hap⟩ := hin
  obtain ⟨v', w', hr, h2, h3, _⟩ := run_append_own (P := Tryz.prog) W z 31 o.type 32 i0 (.slice none 0 0) 1 24 Tryz.underlying31 hi hz0 hz1 hz2 rfl (by decide) v T.length hs0 hrow ⟨b, 0, none⟩ 1 1 [.slice (some ⟨bu, 0, none⟩) t.length cu] rfl hn h1 (by unfold maxLen; omega) (by omega) hz
  have hf := append_fresh (P := Tryz.prog) W z 31 o.type 32 i0 (.slice none 0 0) 1 24 Tryz.underlying31 hi hz0 hz1 hz2 rfl (by decide) v T.length hs0 hrow ⟨b, 0, none⟩ 1 1 [.slice (some ⟨bu, 0, none⟩) t.length cu] rfl hn h1 (by unfold maxLen; omega) (by omega) v' w' hr
  have hfr : Fr (fun k => v.ownBlock = some k) W w' := ⟨h3.os, h3.tape, h3.output, h3.size, fun k hk hn => h3.block k hk fun e => hn e.symm⟩
  have hl : hs0.length = T.length := by have := hrow.1; omega
  refine Lib.wpList_append_run W hgd s x 31 31 ho v (.slice (some ⟨b, 0, none⟩) 1 1) hs hx v' w' hr (h v' w' ⟨⟨hs0 ++ [.slice (some ⟨bu, 0, none⟩) t.length cu], by rw [List.length_append]; exact h2, fun i hd q hi hq => ?_⟩, fun p hp hF => ?_⟩ hfr fun p hp => ?_)
  · have same : ∀ c, Apart v c → c < W.heap.size → w'.heap[c]? = W.heap[c]? := fun c hc hlt => hfr.block c hlt fun e => hc e
    rw [List.getElem?_append] at hi hq
    by_cases hlt : i < T.length
    · rw [if_pos (by omega)] at hi
      rw [if_pos hlt] at hq
      obtain ⟨c, cap, q1, q2, q3, q4, q5⟩ := hget i hd q hi hq
      exact ⟨c, cap, q1, ⟨q2.1, Nat.lt_of_lt_of_le q2.2 hfr.size⟩, hf c q2.2 q3, q4, q5.same (same c q3 q2.2)⟩
    · rw [if_neg (by omega)] at hi
      rw [if_neg hlt] at hq
      have hi0 : i - T.length = 0 := by
        have := (List.getElem?_eq_some_iff.1 hq).1
        simp at this; omega
      rw [hi0] at hq
      rw [hl, hi0] at hi
      simp at hi hq
      subst hi hq
      exact ⟨bu, cu, rfl, ⟨hu.1.1, Nat.lt_of_lt_of_le hu.1.2 hfr.size⟩, hf bu hu.1.2 hu.2.1, hu.2.2.1, hu.2.2.2.same (same bu hu.2.1 hu.1.2)⟩
  · -- the new slice's block: the old one's, or a new one
    have := hFl p hF
    by_cases hvp : v.ownBlock = some p
    · exact hap p hvp hF
    · exact hf p this hvp hp
  · by_cases hvp : v.ownBlock = some p
    · exact .inl hvp
    · rcases Nat.lt_or_ge p W.heap.size with h | h
      · exact absurd hp (hf p h hvp)
      · exact .inr h

/-! ### The past and the rows beside it -/
/-- A past of the first j transactions; the rows of the first m counts beside it; what lay there when the transactions were made is as it was. -/
structure SS (Z : World) (z zo pb : Nat) (R : Rest) (T : List (List OpP)) (k : KeyP) (j m : Nat) (s : Pst) (g : Gh) (v : Value) (w : World) : Prop where
  p : PastIs w pb 0 R (T.take j) s g
  gone : s.gone = 0
  rows : RowsIn z (rowsT T k m) (g.foot pb) v w
  fa : ∀ b, g.foot pb b → b = pb ∨ Z.heap.size ≤ b
  vb : ∀ b, v.ownBlock = some b → b < zo ∨ Z.heap.size ≤ b
  fr : Fr (fun b => b = pb ∨ (z ≤ b ∧ b < zo)) Z w
section
variable {Z w w' : World} {z zo pb : Nat} {R : Rest} {T : List (List OpP)} {k : KeyP} {j m : Nat} {s s' : Pst} {g g' : Gh} {v v' : Value}
theorem SS.below (h : SS Z z zo pb R T k j m s g v w) (hb : Below w.heap.size w w') : SS Z z zo pb R T k j m s g v w' :=
  ⟨h.p.below hb, h.gone, h.rows.below hb, h.fa, h.vb, h.fr.next (Fr.new hb : Fr (fun _ => False) w w') (fun _ _ h => h.elim)⟩
theorem SS.commit (h : SS Z z zo pb R T k j m s g v w) {l : List OpP} (hl : T[j]? = some l) (hp : PastIs w' pb 0 R (T.take j ++ [l]) s' g') (hgo : s'.gone = s.gone) (hf : Fr (g.foot pb) w w') (hG : Grows g g' pb w) : SS Z z zo pb R T k (j + 1) m s' g' v w' where
  p := by rw [List.take_add_one, hl]; exact hp
  gone := hgo.trans h.gone
  rows := h.rows.turn hf hG
  fa b hb := by
    rcases hG b hb with h1 | h1
    · exact h.fa b h1
    · exact .inr (Nat.le_trans h.fr.size h1)
  vb := h.vb
  fr := h.fr.next hf fun b hb hF => by
    rcases h.fa b hF with h1 | h1
    · exact .inl h1
    · omega
theorem SS.more (h : SS Z z zo pb R T k j m s g v w) (hr : RowsIn z (rowsT T k m ++ [rowT T k m]) (g.foot pb) v' w') (hf : Fr (fun b => v.ownBlock = some b) w w') (hv : ∀ b, v'.ownBlock = some b → v.ownBlock = some b ∨ w.heap.size ≤ b) : SS Z z zo pb R T k j (m + 1) s g v' w' where
  p := h.p.frame hf fun b hb e => h.rows.ap b e hb
  gone := h.gone
  rows := by rw [rowsT_succ]; exact hr
  fa := h.fa
  vb b hb := by
    rcases hv b hb with h1 | h1
    · exact h.vb b h1
    · exact .inr (Nat.le_trans h.fr.size h1)
  fr := h.fr.next hf fun b hb e => by
    obtain ⟨⟨hs, h1, _⟩, _⟩ := h.rows
    rcases h.vb b e with h2 | h2
    · exact .inr ⟨(h1.lt b e).1, h2⟩
    · omega
theorem SS.ops (h : SS Z z zo pb R T k j m s g v w) {b : Nat} (hpz : pb < zo) (hb : zo ≤ b ∧ b < Z.heap.size) {t : List OpP} (ht : opsAt Z (some ⟨b, 0, none⟩) t) : opsAt w (some ⟨b, 0, none⟩) t := fun i o hi => by
  obtain ⟨b', f, e, hc⟩ := ht i o hi
  cases e
  exact ⟨b, 0, rfl, fun j u hj => (World.cell?_of_block (a := ⟨b, _, none⟩) (h.fr.block b hb.2 (by omega))).trans (hc j u hj)⟩
theorem SS.sep (h : SS Z z zo pb R T k j m s g v w) {b : Nat} (hpz : pb < zo) (hb : zo ≤ b ∧ b < Z.heap.size) : SepOps (some ⟨b, 0, none⟩) g pb := fun b' f e hf => by
  cases e
  rcases h.fa _ hf with h1 | h1 <;> omega
end
end Go.Proofs.YtacedfcckkpciaaGreatDoor

namespace Go.Proofs.YtacedfcckkpciaaGreatDoor
open Go.RowKit Go.Deep Go.Shelf Go.Sort Go.Maps

theorem textsIn_of_row {w : World} {base : Nat} {v : Value} {l : List ByteArray} (h : w.ownsRow base 9 1 v l.length (l.map Value.string)) (hne : l ≠ []) : ∃ b c, v = .slice (some ⟨b, 0, none⟩) l.length c ∧ (base ≤ b ∧ b < w.heap.size) ∧ textsIn w b l := by
  obtain ⟨ao, cap, rfl, _, hc⟩ := ownsRow_slice h
  cases l with
  | nil => exact absurd rfl hne
  | cons x l =>
    obtain ⟨b, h1, h2⟩ := hc 0 (.string x) (by simp)
    subst h1
    refine ⟨b, cap, rfl, h.lt b rfl, fun i y hy => ?_⟩
    obtain ⟨b', h1', h2'⟩ := hc i (.string y) (by rw [List.getElem?_map, hy]; rfl)
    cases h1'
    exact h2'
set_option maxRecDepth 100000 in
set_option maxHeartbeats 4000000 in
theorem strow_any (k : KeyP) (n : Nat) (kx pb : Nat) (R : Rest) (hist : List (List OpP)) (s : Pst) (g : Gh) (w : World) (h : PastIs w pb 0 R hist s g) (hkx : w.heap[kx]? = some (.cells #[.int .i64 k.kind, .int .i64 k.a, .string k.word, .int .i64 k.b] 29 (0, 0))) (hk : keyB k = true) (h1 : s.gone ≤ n) (h2 : n ≤ hist.length) :
    Calls Tryz.prog 8 #[.int .i64 (n : Nat), .pointer (some ⟨pb, 0, none⟩), .pointer (some ⟨kx, 0, none⟩)] w fun e w' => ∃ b c, e = .returned (.tuple #[.slice (some ⟨b, 0, none⟩) 75 c, .bool true]) ∧ (w.heap.size ≤ b ∧ b < w'.heap.size) ∧ textsIn w' b (rowT hist k n) ∧ Below w.heap.size w w' := by
  have hkl := lt_of_block hkx
  have HKX := Lib.hid hkx
  have CV := Lib.hid fun (t : Nat) (ht : t < 75) X (hX : Below w.heap.size w X) => value_is k n (t : Int) pb 0 R hist s g X (h.below hX) hk (by unfold timeB; simp; omega) h1 h2
  obtain ⟨kk, ka, kw, kb⟩ := k
  clear h hkx h1 h2
  go_enter Tryz.func8, Tryz.ntmps8
  go_wp2_with fail
  go_loopw [6, 7] (fun v i wr => ∃ t : Nat, t ≤ 75 ∧ i = .int .i64 t ∧ (∃ l, l = (rowT hist ⟨kk, ka, kw, kb⟩ n).take t ∧ l.length = t ∧ wr.ownsRow w.heap.size 9 1 v l.length (l.map Value.string)) ∧ Below w.heap.size w wr) (fun _ i _ => 75 - (intOf i).toNat)
  case atStart => exact ⟨0, Nat.zero_le _, rfl, ⟨[], by simp, rfl, World.ownsRow_nil _ _ _ _⟩, Below.refl _ _⟩
  case round =>
    obtain ⟨t, ht, rfl, ⟨l, hl, hll, hown⟩, hb⟩ := hrel
    have HL := Lib.hid hl
    have HO := Lib.hid hown
    have HB := Lib.hid hb
    have HLL := Lib.hid hll
    by_cases hlt : t < 75
    · have kxb := (hb.block kx hkl).trans HKX.out
      have k0 : wr.cell? ⟨kx, 0, none⟩ = some (.int .i64 kk) := by simp [World.cell?, kxb]
      have k1 : wr.cell? ⟨kx, 1, none⟩ = some (.int .i64 ka) := by simp [World.cell?, kxb]
      have k2 : wr.cell? ⟨kx, 2, none⟩ = some (.string kw) := by simp [World.cell?, kxb]
      have k3 : wr.cell? ⟨kx, 3, none⟩ = some (.int .i64 kb) := by simp [World.cell?, kxb]
      have t1 : (t : Int) < 75 := by omega
      have C := Lib.hid (CV.out t hlt wr hb)
      have hx := rowT_get hist ⟨kk, ka, kw, kb⟩ n hlt
      have HX := Lib.hid hx
      clear kxb hb hl hll hown hx
      generalize saidH hist ⟨kk, ka, kw, kb⟩ n (t : Int) = x at *
      go_wp2_with fail
      refine C.out.mono ?_
      rintro e w1 ⟨rfl, b1⟩
      have HO1 := Lib.hid (ownsRow_below HO.out b1)
      have HB1 := Lib.hid (below_trans HB.out HB.out.size b1)
      have hs1 : w.heap.size ≤ w1.heap.size := HB1.out.size
      clear b1
      go_wp2_with (at_builtin; refine appText rfl _ _ rfl w.heap.size _ l rfl (HO1.out.alloc _) w1.heap.size x rfl (by simp) (by rw [HLL.out]; omega) (by simp; omega) w (HB1.out.alloc hs1 _) ?_; intro v' w' h2 h3 _ _; have HO2 := Lib.hid h2; have HB2 := Lib.hid h3; clear h2 h3)
      refine ⟨⟨t + 1, by omega, by go_num, ⟨l ++ [x], ?_, ?_, HO2.out⟩, HB2.out⟩, by simp [intOf]; omega⟩
      · rw [HL.out, List.take_add_one, HX.out]; rfl
      · rw [List.length_append, HLL.out]; rfl
    · obtain rfl : t = 75 := by omega
      have hl75 : l = rowT hist ⟨kk, ka, kw, kb⟩ n := by rw [hl, List.take_of_length_le (by rw [rowT_len]; exact Nat.le_refl _)]
      obtain ⟨b, c, rfl, hbb, htx⟩ := textsIn_of_row hown (fun e => by rw [e] at hll; simp at hll)
      rw [hl75] at htx
      have HT := Lib.hid htx
      rw [hll]
      clear hl hown hb htx hl75 HO HL
      go_wp2_with fail
      go_ret2
      exact ⟨b, c, rfl, hbb, HT.out, HB.out⟩
end Go.Proofs.YtacedfcckkpciaaGreatDoor
