/- The document's tree: a span of a number is taken out. -/
import Derived.Test.YtgbbldbkkmjedaaDoorRefA
namespace Go.Proofs.YtgbbldbkkmjedaaDoor
open Go.RowKit Go.Shelf Go.Sort

def RDone (base wb : Nat) (R : List It) (n : Int) (w : World) (e : Ending) (w' : World) : Prop :=
  e = .returned (.int .i64 n) ∧ ∃ vi vs, RefAt w' base wb R vi vs ∧ Fr (· = wb) w w' ∧ ∀ k, rfoot wb vi vs k → k = wb ∨ w.heap.size ≤ k

theorem own_built {base : Nat} {e : TypeId} {size : Nat} (w : World) (hb : base ≤ w.heap.size) : (w.alloc (.cells #[] e)).ownsRow base e size (.slice (some ⟨w.heap.size, 0, none⟩) 0 0) 0 [] :=
  World.ownsRow_made w #[] 0 hb (by simp [maxLen]) (by simp)
theorem ints_one (l : List Int) : ∀ u ∈ l.map (Value.int .i64), u.oneCell' = true := by
  intro u hu
  obtain ⟨x, _, rfl⟩ := List.mem_map.1 hu
  rfl
theorem ints_news {w : World} {b o : Nat} {l : List Int} (h : ∀ i x, l[i]? = some x → w.cell? ⟨b, o + i, none⟩ = some (.int .i64 x)) : ∀ j u, (l.map (Value.int .i64))[j]? = some u → w.cell? ((⟨b, o, none⟩ : Addr).add j) = some u := by
  intro j u hu
  rw [List.getElem?_map, Option.map_eq_some_iff] at hu
  obtain ⟨x, hx, rfl⟩ := hu
  rw [Addr.add_lit]
  exact h j x hx

/-- The numbers ahead of a place, and those behind it, as an append reads them in a later world. -/
theorem ids_take {w W : World} {b : Nat} {l : List Int} (h : ∀ i x, l[i]? = some x → w.cell? ⟨b, i, none⟩ = some (.int .i64 x)) (hb : b < w.heap.size) (hB : Below w.heap.size w W) (k : Nat) :
    ∀ j u, ((l.take k).map (Value.int .i64))[j]? = some u → W.cell? ((⟨b, 0, none⟩ : Addr).add j) = some u := by
  refine ints_news fun i x hx => ?_
  have hx' : l[i]? = some x := by
    rw [List.getElem?_take] at hx
    split at hx
    · exact hx
    · cases hx
  rw [Nat.zero_add]
  exact below_cell hB hb (h i x hx')
theorem ids_drop {w W : World} {b : Nat} {l : List Int} (h : ∀ i x, l[i]? = some x → w.cell? ⟨b, i, none⟩ = some (.int .i64 x)) (hb : b < w.heap.size) (hB : Below w.heap.size w W) (k : Nat) :
    ∀ j u, ((l.drop k).map (Value.int .i64))[j]? = some u → W.cell? ((⟨b, k, none⟩ : Addr).add j) = some u := by
  refine ints_news fun i x hx => ?_
  rw [List.getElem?_drop] at hx
  exact below_cell hB hb (h _ x hx)
theorem ids_none {W : World} {l : List Int} {k : Nat} (h : l.length ≤ k) (ad : Addr) : ∀ j u, ((l.drop k).map (Value.int .i64))[j]? = some u → W.cell? (ad.add j) = some u := by
  intro j u hu
  rw [List.drop_eq_nil_of_le h] at hu
  simp at hu
theorem ids_cells {w : World} {base b n cap : Nat} {l : List Int} {e : TypeId} (h : w.ownsRow base e 1 (.slice (some ⟨b, 0, none⟩) n cap) n (l.map (Value.int .i64))) : (∀ i x, l[i]? = some x → w.cell? ⟨b, i, none⟩ = some (.int .i64 x)) ∧ b < w.heap.size := by
  refine ⟨fun i x hx => ?_, (h.lt b rfl).2⟩
  obtain ⟨ao, cap, e1, h1⟩ := ownsRow_ints h
  cases e1
  obtain ⟨b', o', e2, h2⟩ := h1 i x hx
  cases e2
  rw [Nat.zero_add] at h2
  exact h2

theorem takeR_length {R : List It} {id : Int} (h : posR R id < R.length) : (takeR R id).length = R.length - 1 := by
  unfold takeR; simp; omega
/-- The numbers are written anew, the spans not yet. -/
def RMid (w : World) (wb : Nat) (l : List Int) (vs : Value) (W : World) : Prop :=
  ∃ vi, W.heap[wb]? = some (.cells #[vi, vs] 31 (0, 0)) ∧ W.ownsRow w.heap.size 3 1 vi l.length (l.map (Value.int .i64)) ∧ Fr (· = wb) w W ∧ vi ≠ .slice none 0 0
theorem rmid {w w1 w6 : World} {base wb : Nat} {R : List It} {vi vs v : Value} {n : Nat} {xs : List Value} {l : List Int} (h : RefAt w base wb R vi vs) (hb1 : Below w.heap.size w w1) (B6 : Below w1.heap.size w1 w6)
    (hown : w6.ownsRow w1.heap.size 3 1 v n xs) (hn : n = l.length) (hx : xs = l.map (Value.int .i64)) (hv : v ≠ .slice none 0 0) : RMid w wb l vs (w6.setCell ⟨wb, 0, none⟩ v) := by
  subst hn hx
  have hwl : wb < w.heap.size := Nat.lt_of_lt_of_le h.lt h.hb
  have hs := hb1.size
  have hB : Below w.heap.size w w6 := hb1.trans (B6.mono hs)
  refine ⟨v, ?_, ?_, ?_, hv⟩
  · have := (hB.block wb hwl).trans h.cells
    exact block_set this 0 v
  · refine ownsRow_mono (base := w1.heap.size) ?_ hs
    exact ownsRow_setCell_other hown (a := ⟨wb, 0, none⟩) (fun e => by have := (hown.lt wb e).1; omega) v
  · exact Fr.setCell (F := (· = wb)) (Fr.new hB) (p := ⟨wb, 0, none⟩) (fun _ => rfl) v
theorem rend {w W w6 : World} {base wb : Nat} {R R' : List It} {vi vs v : Value} {n : Nat} {xs : List Value} (h : RefAt w base wb R vi vs) (hm : RMid w wb (idsR R') vs W) (B6 : Below W.heap.size W w6)
    (hown : w6.ownsRow W.heap.size 34 2 v n xs) (hn : n = R'.length) (hx : xs = flat (spsR R')) (hv : v ≠ .slice none 0 0) (k : Int) : RDone base wb R' k w (.returned (.int .i64 k)) (w6.setCell ⟨wb, 1, none⟩ v) := by
  subst hn hx
  obtain ⟨vi', hc, ho, hF, hv'⟩ := hm
  have hwl : wb < w.heap.size := Nat.lt_of_lt_of_le h.lt h.hb
  have hs := hF.size
  have ho6 := ownsRow_below ho B6
  have hc6 := (B6.block wb (by omega)).trans hc
  rw [idsR_length] at ho6
  refine ⟨rfl, vi', v, ⟨block_set hc6 1 v, ?_, ?_, h.lt, ?_, Or.inr ⟨hv', hv⟩⟩, ?_, ?_⟩
  · refine ownsRow_mono (base := w.heap.size) ?_ h.hb
    exact ownsRow_setCell_other ho6 (a := ⟨wb, 1, none⟩) (fun e => by have := (ho6.lt wb e).1; omega) v
  · refine ownsRow_mono (base := W.heap.size) ?_ (by have := h.hb; omega)
    exact ownsRow_setCell_other hown (a := ⟨wb, 1, none⟩) (fun e => by have := (hown.lt wb e).1; omega) v
  · have := B6.size; have := h.hb; simp [World.setCell]; omega
  · exact Fr.setCell (F := (· = wb)) (hF.next (Fr.new (F := (· = wb)) B6) (fun _ _ e => e)) (p := ⟨wb, 1, none⟩) (fun _ => rfl) v
  · rintro k (e | e | e)
    · exact Or.inl e
    · exact Or.inr (ho6.lt k e).1
    · have := (hown.lt k e).1; exact Or.inr (by omega)
theorem sps_take {w W : World} {b : Nat} {l : List (Int × Int)} (h : spansAt w (some ⟨b, 0, none⟩) l) (hB : Below w.heap.size w W) (k : Nat) : ∀ j u, (flat (l.take k))[j]? = some u → W.cell? ((⟨b, 0, none⟩ : Addr).add j) = some u := by
  refine spansAt_news (l := l.take k) fun i x y hx => ?_
  have hx' : l[i]? = some (x, y) := by
    rw [List.getElem?_take] at hx
    split at hx
    · exact hx
    · cases hx
  exact (h.below hB) i x y hx'
theorem sps_drop {w W : World} {b : Nat} {l : List (Int × Int)} (h : spansAt w (some ⟨b, 0, none⟩) l) (hB : Below w.heap.size w W) (k : Nat) : ∀ j u, (flat (l.drop k))[j]? = some u → W.cell? ((⟨b, k * 2, none⟩ : Addr).add j) = some u := by
  refine spansAt_news (l := l.drop k) fun i x y hx => ?_
  rw [List.getElem?_drop] at hx
  obtain ⟨b', o, e, h1, h2⟩ := (h.below hB) _ x y hx
  cases e
  refine ⟨b, k * 2, rfl, ?_, ?_⟩
  · rw [show k * 2 + i * 2 = 0 + (k + i) * 2 by omega]; exact h1
  · rw [show k * 2 + i * 2 + 1 = 0 + (k + i) * 2 + 1 by omega]; exact h2
theorem sps_none {W : World} {l : List (Int × Int)} {k : Nat} (h : l.length ≤ k) (ad : Addr) : ∀ j u, (flat (l.drop k))[j]? = some u → W.cell? (ad.add j) = some u := by
  intro j u hu
  rw [List.drop_eq_nil_of_le h] at hu
  simp [flat] at hu

set_option maxRecDepth 100000 in
set_option maxHeartbeats 4000000 in
theorem rdrop_ok (id : Int) (w : World) (base wb : Nat) (R : List It) (vi vs : Value) (h : RefAt w base wb R vi vs) (hs : SrtI R) (hlen : R.length < 1000000) (hx : hasR R id = true)
    (hF : Calls Tryd.prog 54 #[.pointer (some ⟨wb, 0, none⟩), .int .i64 id] w fun e w' => e = .returned (.tuple #[.int .i64 (posR R id : Int), .bool (hasR R id)]) ∧ Below w.heap.size w w') :
    Calls Tryd.prog 13 #[.pointer (some ⟨wb, 0, none⟩), .int .i64 id] w (RDone base wb (takeR R id) 0 w) := by
  have hk : posR R id < R.length := by
    rcases hasR_pos hs id with ⟨_, x, e2, _⟩ | ⟨e1, _⟩
    · exact (List.getElem?_eq_some_iff.1 e2).1
    · rw [hx] at e1; cases e1
  rw [hx] at hF
  obtain ⟨c0, c1, f0, f1⟩ := rt_cells h.cells
  have hh := h.ids
  have hh2 := h.sps
  obtain ⟨b, cap, rfl, hcap⟩ : ∃ b cap, vi = .slice (some ⟨b, 0, none⟩) R.length cap ∧ R.length ≤ cap := by
    rcases hh.2 with ⟨e, hn⟩ | ⟨g, cap', cur, e, _, _, hnc, _⟩
    · omega
    · exact ⟨g, cap', e, hnc⟩
  obtain ⟨b2, cap2, rfl, hcap2⟩ : ∃ b cap, vs = .slice (some ⟨b, 0, none⟩) R.length cap ∧ R.length ≤ cap := by
    rcases hh2.2 with ⟨e, hn⟩ | ⟨g, cap', cur, e, _, _, hnc, _⟩
    · omega
    · exact ⟨g, cap', e, hnc⟩
  have hwl : wb < w.heap.size := Nat.lt_of_lt_of_le h.lt h.hb
  obtain ⟨i0, hi0, hz0, hz1, hz2⟩ := info_parts infoInt
  obtain ⟨i1, hi1, hy0, hy1, hy2⟩ := info_parts infoSpan
  have HH := Lib.hid h
  have he1 := idsR_take R id
  have he2 := spsR_take R id
  have hlt := (takeR_length hk)
  have hlr := idsR_length R
  have hls := spsR_length R
  generalize posR R id = k at *
  have hk1 : (k : Int) ≤ (cap : Int) := by omega
  have hk4 : (k : Int) ≤ (cap2 : Int) := by omega
  have hk5 : k ≤ cap2 := by omega
  have hk2 : (k : Int) + 1 ≤ (R.length : Int) := by omega
  have hwr : IntKind.i64.wrap ((k : Int) + 1) = ((k + 1 : Nat) : Int) := by have := IntKind.wrap_i64 ((k : Int) + 1); omega
  have hkk : (k : Int) ≤ (k : Int) + 1 := by omega
  have h0k : (0 : Int) ≤ (k : Int) + 1 := by omega
  have hk3 : ((k + 1 : Nat) : Int) ≤ (R.length : Int) := by omega
  have HE1 := Lib.hid he1
  have HE2 := Lib.hid he2
  have HLT := Lib.hid hlt
  clear h hh hh2 hs hx he1 he2 hlt
  go_enter Tryd.func13, Tryd.ntmps13
  go_wp2_with (go_at_call 54; refine hF.mono ?_; rintro e w1 ⟨rfl, b1⟩)
  have hc1 := b1.block wb hwl
  rw [HH.out.cells] at hc1
  obtain ⟨c0, c1, f0, f1⟩ := rt_cells hc1
  have h1 := HH.out.below b1
  have HB := Lib.hid b1
  obtain ⟨hci, hbl⟩ := ids_cells h1.ids
  have HCI := Lib.hid hci
  have H1 := Lib.hid h1
  have hs1 := b1.size
  have hwl1 : wb < w1.heap.size := by omega
  clear b1 hc1 h1 hF hci
  go_wp2_with fail
  obtain ⟨Q1, hQ1⟩ : ∃ Q : Exit → Act → World → Prop, Q = fun e a W => e = .normal ∧ (∃ x15 x16 x17 x18 x19 x20 x21 x22 x23 x24 x25 x26 x27 x28 x29 x30 x31 x32 x33, a = ⟨#[.pointer (some ⟨wb, 0, none⟩), .int .i64 id, undef, undef, .int .i64 0, .int .i64 k, .bool true, .tuple #[.int .i64 k, .bool true], .pointer (some ⟨wb, 0, none⟩), .int .i64 id, .tuple #[.int .i64 k, .bool true], .int .i64 k, .bool true, .bool true, .bool false, x15, x16, x17, x18, x19, x20, x21, x22, x23, x24, x25, x26, x27, x28, x29, x30, x31, x32, x33, undef, undef, undef, undef, undef, undef, undef, undef, undef, undef, undef, undef, undef, undef, undef, undef, undef, undef, undef], []⟩) ∧ RMid w wb ((idsR R).take k ++ (idsR R).drop (k + 1)) (.slice (some ⟨b2, 0, none⟩) R.length cap2) W := ⟨_, rfl⟩
  have HQ1 := Lib.hid hQ1
  clear hQ1
  refine Code.wp_mono (Q := NoPanic Q1) ?_ ?_
  rotate_left
  · rcases Nat.eq_or_lt_of_le (show k + 1 ≤ cap by omega) with hce | hce
    · subst hce
      go_region_law (first
        | (refine step_append_own rfl _ _ 28 rfl w1.heap.size 3 i0 (.int .i64 0) 1 8 Tryd.underlying28 hi0 hz0 hz1 hz2 rfl (by decide) _ 0 [] rfl (own_built _ (Nat.le_refl _)) ⟨b, 0, none⟩ k _ (((idsR R).take k).map (Value.int .i64)) rfl (by simp; omega) (ids_take HCI.out hbl ((Below.refl _ _).drew.alloc (Nat.le_refl _) _) k) (ints_one _) (by unfold maxLen; omega) (by omega) (by simp) ?_; intro v5 w5 hown5 hgrow5 hn5; have B5 : Below w1.heap.size w1 w5 := ((Below.refl _ _).drew.alloc (Nat.le_refl _) _).grown hgrow5 (by simp) (fun q hq => by cases hq; exact Nat.le_refl _); have c0' := below_cell B5 hwl1 c0)
        | (refine step_append_own rfl _ _ 28 rfl w1.heap.size 3 i0 (.int .i64 0) 1 8 Tryd.underlying28 hi0 hz0 hz1 hz2 rfl (by decide) v5 (0 + k) _ rfl hown5 ⟨b, 0, none⟩ 0 _ (((idsR R).drop (k + 1)).map (Value.int .i64)) rfl (by simp; omega) (ids_none (by omega) _) (ints_one _) (by unfold maxLen; omega) (by omega) B5.size ?_; intro v6 w6 hown6 hgrow6 hn6; have hv6 : v6 ≠ .slice none 0 0 := (fun e => by cases (hn5.1 (hn6.1 e).1).1); clear hn5 hn6; have B6 : Below w1.heap.size w1 w6 := B5.grown hgrow6 B5.size (fun q hq => (hown5.lt q hq).1); obtain ⟨a6, q6, rfl, _, _⟩ := ownsRow_slice hown6; have c0'' := below_cell B6 hwl1 c0; have f0'' := below_frozen B6 hwl1 f0))
      all_goals (simp only [Nat.zero_add, Nat.add_zero] at hown6 hv6)
      all_goals exact NoPanic.normal (by rw [HQ1.out]; exact ⟨rfl, ⟨_, _, _, _, _, _, _, _, _, _, _, _, _, _, _, _, _, _, _, rfl⟩, rmid HH.out HB.out B6 hown6 (by simp; omega) (by simp) hv6⟩)
    · have hcn : ¬ cap = k + 1 := by omega
      go_region_law (first
        | (refine step_append_own rfl _ _ 28 rfl w1.heap.size 3 i0 (.int .i64 0) 1 8 Tryd.underlying28 hi0 hz0 hz1 hz2 rfl (by decide) _ 0 [] rfl (own_built _ (Nat.le_refl _)) ⟨b, 0, none⟩ k _ (((idsR R).take k).map (Value.int .i64)) rfl (by simp; omega) (ids_take HCI.out hbl ((Below.refl _ _).drew.alloc (Nat.le_refl _) _) k) (ints_one _) (by unfold maxLen; omega) (by omega) (by simp) ?_; intro v5 w5 hown5 hgrow5 hn5; have B5 : Below w1.heap.size w1 w5 := ((Below.refl _ _).drew.alloc (Nat.le_refl _) _).grown hgrow5 (by simp) (fun q hq => by cases hq; exact Nat.le_refl _); have c0' := below_cell B5 hwl1 c0)
        | (refine step_append_own rfl _ _ 28 rfl w1.heap.size 3 i0 (.int .i64 0) 1 8 Tryd.underlying28 hi0 hz0 hz1 hz2 rfl (by decide) v5 (0 + k) _ rfl hown5 ⟨b, k + 1, none⟩ (R.length - (k + 1)) (cap - (k + 1)) (((idsR R).drop (k + 1)).map (Value.int .i64)) rfl (by simp; omega) (ids_drop HCI.out hbl B5 (k + 1)) (ints_one _) (by unfold maxLen; omega) (by omega) B5.size ?_; intro v6 w6 hown6 hgrow6 hn6; have hv6 : v6 ≠ .slice none 0 0 := (fun e => by cases (hn5.1 (hn6.1 e).1).1); clear hn5 hn6; have B6 : Below w1.heap.size w1 w6 := B5.grown hgrow6 B5.size (fun q hq => (hown5.lt q hq).1); obtain ⟨a6, q6, rfl, _, _⟩ := ownsRow_slice hown6; have c0'' := below_cell B6 hwl1 c0; have f0'' := below_frozen B6 hwl1 f0))
      all_goals (simp only [Nat.zero_add] at hown6 hv6)
      all_goals exact NoPanic.normal (by rw [HQ1.out]; exact ⟨rfl, ⟨_, _, _, _, _, _, _, _, _, _, _, _, _, _, _, _, _, _, _, rfl⟩, rmid HH.out HB.out B6 hown6 (by simp; omega) (by simp) hv6⟩)
  intro e a W hq
  obtain ⟨rfl, ⟨x15, x16, x17, x18, x19, x20, x21, x22, x23, x24, x25, x26, x27, x28, x29, x30, x31, x32, x33, rfl⟩, hm⟩ := (by have := NoPanic.imp _ _ _ hq; rw [HQ1.out] at this; exact this)
  clear hq HQ1
  have HM := Lib.hid hm
  obtain ⟨vi', hcm, hom, hFm, hvm⟩ := hm
  clear hom hvm
  have hsp := ownsRow_fr HH.out.sps hFm (fun q hq e => by subst e; have := (HH.out.sps.lt _ hq).1; have := HH.out.lt; omega)
  obtain ⟨ax, cx, ex, hspA⟩ := ownsRow_spans hsp
  obtain ⟨ex1, ex2, ex3⟩ := Value.slice.inj ex
  subst ex1
  clear ex ex2 ex3
  have HCI := Lib.hid hspA
  obtain ⟨c0, c1, f0, f1⟩ := rt_cells hcm
  have hwl1 : wb < W.heap.size := by have := hFm.size; omega
  clear hcm hFm hsp hspA
  go_wp2_with fail
  obtain ⟨Q2, hQ2⟩ : ∃ Q : Exit → Act → World → Prop, Q = fun e a W6 => e = .normal ∧ (∃ y34 y35 y36 y37 y38 y39 y40 y41 y42 y43 y44 y45 y46 y47 y48 y49 y50 y51 y52, a = ⟨#[.pointer (some ⟨wb, 0, none⟩), .int .i64 id, undef, undef, .int .i64 0, .int .i64 k, .bool true, .tuple #[.int .i64 k, .bool true], .pointer (some ⟨wb, 0, none⟩), .int .i64 id, .tuple #[.int .i64 k, .bool true], .int .i64 k, .bool true, .bool true, .bool false, x15, x16, x17, x18, x19, x20, x21, x22, x23, x24, x25, x26, x27, x28, x29, x30, x31, x32, x33, y34, y35, y36, y37, y38, y39, y40, y41, y42, y43, y44, y45, y46, y47, y48, y49, y50, y51, y52], []⟩) ∧ RDone base wb (takeR R id) 0 w (.returned (.int .i64 0)) W6 := ⟨_, rfl⟩
  have HQ2 := Lib.hid hQ2
  clear hQ2
  refine Code.wp_mono (Q := NoPanic Q2) ?_ ?_
  rotate_left
  · rcases Nat.eq_or_lt_of_le (show k + 1 ≤ cap2 by omega) with hce | hce
    · subst hce
      go_region_law (first
        | (refine step_append_own rfl _ _ 29 rfl W.heap.size 34 i1 (.agg #[.int .i64 0, .int .i64 0]) 2 16 Tryd.underlying29 hi1 hy0 hy1 hy2 rfl (by decide) _ 0 [] rfl (own_built _ (Nat.le_refl _)) ⟨b2, 0, none⟩ k _ (flat ((spsR R).take k)) rfl (by rw [flat_length]; simp; omega) (sps_take HCI.out ((Below.refl _ _).drew.alloc (Nat.le_refl _) _) k) (flat_one _) (by unfold maxLen; omega) (by omega) (by simp) ?_; intro v5 w5 hown5 hgrow5 hn5; have B5 : Below W.heap.size W w5 := ((Below.refl _ _).drew.alloc (Nat.le_refl _) _).grown hgrow5 (by simp) (fun q hq => by cases hq; exact Nat.le_refl _); have c0' := below_cell B5 hwl1 c1)
        | (refine step_append_own rfl _ _ 29 rfl W.heap.size 34 i1 (.agg #[.int .i64 0, .int .i64 0]) 2 16 Tryd.underlying29 hi1 hy0 hy1 hy2 rfl (by decide) v5 (0 + k) _ rfl hown5 ⟨b2, 0, none⟩ 0 _ (flat ((spsR R).drop (k + 1))) rfl (by rw [flat_length]; simp; omega) (sps_none (by omega) _) (flat_one _) (by unfold maxLen; omega) (by omega) B5.size ?_; intro v6 w6 hown6 hgrow6 hn6; have hv6 : v6 ≠ .slice none 0 0 := (fun e => by cases (hn5.1 (hn6.1 e).1).1); clear hn5 hn6; have B6 : Below W.heap.size W w6 := B5.grown hgrow6 B5.size (fun q hq => (hown5.lt q hq).1); obtain ⟨a6, q6, rfl, _, _⟩ := ownsRow_slice hown6; have c0'' := below_cell B6 hwl1 c1; have f0'' := below_frozen B6 hwl1 f1))
      all_goals (simp only [Nat.zero_add, Nat.add_zero] at hown6 hv6)
      all_goals exact NoPanic.normal (by rw [HQ2.out]; exact ⟨rfl, ⟨_, _, _, _, _, _, _, _, _, _, _, _, _, _, _, _, _, _, _, rfl⟩, rend HH.out (by rw [HE1.out]; exact HM.out) B6 hown6 (by rw [HLT.out]; omega) (by rw [HE2.out]; simp [flat_append]) hv6 0⟩)
    · have hcn : ¬ cap2 = k + 1 := by omega
      go_region_law (first
        | (refine step_append_own rfl _ _ 29 rfl W.heap.size 34 i1 (.agg #[.int .i64 0, .int .i64 0]) 2 16 Tryd.underlying29 hi1 hy0 hy1 hy2 rfl (by decide) _ 0 [] rfl (own_built _ (Nat.le_refl _)) ⟨b2, 0, none⟩ k _ (flat ((spsR R).take k)) rfl (by rw [flat_length]; simp; omega) (sps_take HCI.out ((Below.refl _ _).drew.alloc (Nat.le_refl _) _) k) (flat_one _) (by unfold maxLen; omega) (by omega) (by simp) ?_; intro v5 w5 hown5 hgrow5 hn5; have B5 : Below W.heap.size W w5 := ((Below.refl _ _).drew.alloc (Nat.le_refl _) _).grown hgrow5 (by simp) (fun q hq => by cases hq; exact Nat.le_refl _); have c0' := below_cell B5 hwl1 c1)
        | (refine step_append_own rfl _ _ 29 rfl W.heap.size 34 i1 (.agg #[.int .i64 0, .int .i64 0]) 2 16 Tryd.underlying29 hi1 hy0 hy1 hy2 rfl (by decide) v5 (0 + k) _ rfl hown5 ⟨b2, (k + 1) * 2, none⟩ (R.length - (k + 1)) (cap2 - (k + 1)) (flat ((spsR R).drop (k + 1))) rfl (by rw [flat_length]; simp; omega) (sps_drop HCI.out B5 (k + 1)) (flat_one _) (by unfold maxLen; omega) (by omega) B5.size ?_; intro v6 w6 hown6 hgrow6 hn6; have hv6 : v6 ≠ .slice none 0 0 := (fun e => by cases (hn5.1 (hn6.1 e).1).1); clear hn5 hn6; have B6 : Below W.heap.size W w6 := B5.grown hgrow6 B5.size (fun q hq => (hown5.lt q hq).1); obtain ⟨a6, q6, rfl, _, _⟩ := ownsRow_slice hown6; have c0'' := below_cell B6 hwl1 c1; have f0'' := below_frozen B6 hwl1 f1))
      all_goals (simp only [Nat.zero_add] at hown6 hv6)
      all_goals exact NoPanic.normal (by rw [HQ2.out]; exact ⟨rfl, ⟨_, _, _, _, _, _, _, _, _, _, _, _, _, _, _, _, _, _, _, rfl⟩, rend HH.out (by rw [HE1.out]; exact HM.out) B6 hown6 (by rw [HLT.out]; omega) (by rw [HE2.out]; simp [flat_append]) hv6 0⟩)
  intro e a W6 hq
  obtain ⟨rfl, ⟨y34, y35, y36, y37, y38, y39, y40, y41, y42, y43, y44, y45, y46, y47, y48, y49, y50, y51, y52, rfl⟩, hd⟩ := (by have := NoPanic.imp _ _ _ hq; rw [HQ2.out] at this; exact this)
  clear hq HQ2
  have HD := Lib.hid hd
  clear hd
  go_wp2_with fail
  go_ret
  exact HD.out
end Go.Proofs.YtgbbldbkkmjedaaDoor
