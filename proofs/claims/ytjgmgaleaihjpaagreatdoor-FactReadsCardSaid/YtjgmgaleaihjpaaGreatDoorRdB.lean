/- The document's Read: whatever text comes in. The conditions: the library's tables and variables that it reads are as its own text lays them. -/
import Derived.Test.YtjgmgaleaihjpaaGreatDoorRdA
import Derived.Deep.RegionHeld3
namespace Go.Proofs.YtjgmgaleaihjpaaGreatDoor
open Go.RowKit Go.Shelf

theorem cutC_count (c : UInt8) : ∀ s : List UInt8, (cutC c s).length ≤ s.length + 1
  | [] => by simp [cutC]
  | b :: s => by
    have ih := cutC_count c s
    unfold cutC
    split
    · simp; omega
    · split
      · simp
      · rename_i p r he
        rw [he] at ih
        simp at ih ⊢; omega
/-- A row that is made full. -/
theorem own_row (w : World) (base : Nat) (e : TypeId) (n : Nat) (cs : Array Value) (xs : List Value) (hx : cs.toList = xs) (hb : base ≤ w.heap.size) (hn : xs.length = n) (hm : n ≤ maxLen) :
    (w.alloc (.cells cs e)).ownsRow base e 1 (.slice (some ⟨w.heap.size, 0, none⟩) n n) n xs := by
  have hs : cs.size = n := by rw [← hn, ← hx]; simp
  exact ⟨by omega, .inr ⟨w.heap.size, n, cs, rfl, hb, heap_alloc_new w _, Nat.le_refl _, hm, by omega, by rw [hx]; exact List.take_of_length_le (by omega)⟩⟩
theorem own_cells {w : World} {base n : Nat} {v : Value} {L : List ByteArray} {e : TypeId} (h : w.ownsRow base e 1 v n (L.map Value.string)) (hne : L ≠ []) :
    ∃ b cap, v = .slice (some ⟨b, 0, none⟩) n cap ∧ base ≤ b ∧ b < w.heap.size ∧ ∀ i y, L[i]? = some y → w.cell? ⟨b, i, none⟩ = some (.string y) := by
  have h0 := h
  have hl : L.length = n := by have := h.1; simp at this; omega
  rcases h.2 with ⟨rfl, hn⟩ | ⟨g, cap, cur, rfl, hbg, hh, _⟩
  · exact absurd (List.eq_nil_of_length_eq_zero (by omega)) hne
  · refine ⟨g, cap, rfl, hbg, (Array.getElem?_eq_some_iff.1 hh).1, fun i y hy => ?_⟩
    have hi := (List.getElem?_eq_some_iff.1 hy).1
    have := h0.cellAt i (by omega)
    rw [this]
    simp [hy]
/-- The words of a piece, with seven empty ones behind. -/
def paddB (ws : List ByteArray) : List ByteArray := ws ++ [⟨#[]⟩, ⟨#[]⟩, ⟨#[]⟩, ⟨#[]⟩, ⟨#[]⟩, ⟨#[]⟩, ⟨#[]⟩]
theorem padd7 (ws : List ByteArray) : ∃ y0 y1 y2 y3 y4 y5 y6 r, paddB ws = y0 :: y1 :: y2 :: y3 :: y4 :: y5 :: y6 :: r :=
  match ws with
  | [] => ⟨_, _, _, _, _, _, _, _, rfl⟩
  | [_] => ⟨_, _, _, _, _, _, _, _, rfl⟩
  | [_, _] => ⟨_, _, _, _, _, _, _, _, rfl⟩
  | [_, _, _] => ⟨_, _, _, _, _, _, _, _, rfl⟩
  | [_, _, _, _] => ⟨_, _, _, _, _, _, _, _, rfl⟩
  | [_, _, _, _, _] => ⟨_, _, _, _, _, _, _, _, rfl⟩
  | [_, _, _, _, _, _] => ⟨_, _, _, _, _, _, _, _, rfl⟩
  | _ :: _ :: _ :: _ :: _ :: _ :: _ :: _ => ⟨_, _, _, _, _, _, _, _, rfl⟩
theorem padd_piece {x : List UInt8} {ws : List ByteArray} {y0 y1 y2 y3 y4 y5 y6 : ByteArray} {r : List ByteArray} (h : ws.map (·.data.toList) = cutC 32 x) (hp : paddB ws = y0 :: y1 :: y2 :: y3 :: y4 :: y5 :: y6 :: r) :
    pieceR x = ⟨⟨numR y0.data.toList, numR y1.data.toList, undash y2.data.toList, numR y3.data.toList⟩, numR y4.data.toList, numR y5.data.toList, undash y6.data.toList⟩ := by
  have e : cutC 32 x ++ [[], [], [], [], [], [], []] = (paddB ws).map (·.data.toList) := by
    unfold paddB; rw [List.map_append, h]; rfl
  unfold pieceR
  simp only [e, hp, List.map_cons, List.getD_cons_zero, List.getD_cons_succ]

def opsR (ps : List ByteArray) : List OpP := ps.map fun p => pieceR p.data.toList
theorem opsR_cut {ps : List ByteArray} {s : List UInt8} (h : ps.map (·.data.toList) = cutC 43 s) : opsR ps = (cutC 43 s).map pieceR := by
  rw [← h]; simp [opsR]
theorem opsR_snoc {ps : List ByteArray} {k : Nat} {x : ByteArray} (h : ps[k]? = some x) : flatO ((opsR ps).take (k + 1)) = flatO ((opsR ps).take k) ++ opCells (pieceR x.data.toList) := by
  rw [List.take_add_one, show (opsR ps)[k]? = some (pieceR x.data.toList) by unfold opsR; rw [List.getElem?_map, h]; rfl, flatO_append]
  simp [flatO]
theorem undash_size (l : List UInt8) : (undash l).size ≤ l.length := by
  unfold undash; split
  · exact Nat.zero_le _
  · simp [ByteArray.size]

theorem getD_le {l : List (List UInt8)} {m : Nat} (h : ∀ p ∈ l, p.length ≤ m) (i : Nat) : (l.getD i []).length ≤ m := by
  rw [List.getD_eq_getElem?_getD]
  cases hi : l[i]? with
  | none => exact Nat.zero_le _
  | some p => exact h p (List.mem_of_getElem? hi)
theorem pieceR_size (x : List UInt8) (h : x.length ≤ 100000) : (pieceR x).key.word.size ≤ 100000 ∧ (pieceR x).value.size ≤ 100000 := by
  have hl : ∀ p ∈ cutC 32 x ++ [[], [], [], [], [], [], []], p.length ≤ 100000 := fun p hp => by
    rcases List.mem_append.1 hp with hp | hp
    · exact Nat.le_trans (cutC_len 32 x p hp) h
    · simp only [List.mem_cons, List.not_mem_nil, or_false, or_self] at hp
      subst hp; exact Nat.zero_le _
  exact ⟨Nat.le_trans (undash_size _) (getD_le hl 2), Nat.le_trans (undash_size _) (getD_le hl 6)⟩
/-- An append to an own row leaves what is newer than that row. -/
theorem rd_kept {V X w6 wr : World} {v : Value} {n₀ k : Nat} {xs : List Value} {e : TypeId} {sz b i : Nat} {u : Value} (hg : X.grownBy w6 v.ownBlock) (ho : wr.ownsRow n₀ e sz v k xs) (hX : Below V.heap.size V X) (hb : b < V.heap.size) (hr : wr.heap.size ≤ b) (hc : V.cell? ⟨b, i, none⟩ = some u) : w6.cell? ⟨b, i, none⟩ = some u := by
  have h1 := below_cell hX hb hc
  refine (World.cell?_of_block (a := ⟨b, i, none⟩) (hg.block b (Nat.lt_of_lt_of_le hb hX.size) fun e => ?_)).trans h1
  have := (ho.lt b e.symm).2
  omega
set_option maxRecDepth 100000 in
set_option maxHeartbeats 4000000 in
theorem rread_any (s : ByteArray) (w : World) (hs : s.size ≤ 100000) (ht : PowTab w) (hv : NumVars w) :
    Calls Tryz.prog 4 #[.string s] w fun e w' => ((∃ L ao cap, e = .returned (.tuple #[.slice ao L.length cap, .int .i64 0]) ∧ readR s.data.toList = some L ∧ opsAt w' ao L) ∨
      (e = .returned (.tuple #[.slice none 0 0, .int .i64 3]) ∧ readR s.data.toList = none)) ∧ Below w.heap.size w w' := by
  obtain ⟨i0, hi0, hz0, hz1, hz2⟩ := info_parts infoOp
  obtain ⟨j0, hj0, hy0, hy1, hy2⟩ := info_parts infoStr
  have HSp := Lib.hid (split_any 43 s w hs hv)
  have HT := Lib.hid ht
  have HV := Lib.hid hv
  clear ht hv
  go_enter Tryz.func4, Tryz.ntmps4
  go_wp2_with fail
  refine HSp.out.mono ?_
  rintro e W1 ⟨ps, hps, rfl, hW1⟩
  obtain ⟨sb, hsb⟩ : ∃ sb, sb = w.heap.size := ⟨_, rfl⟩
  have B1 : Below w.heap.size w W1 := by rw [hW1]; exact (Below.refl _ w).alloc (Nat.le_refl _) _
  have sz1 : W1.heap.size = sb + 1 := by rw [hW1, hsb]; simp
  have hcells : ∀ i p, ps[i]? = some p → W1.cell? ⟨sb, i, none⟩ = some (.string p) := fun i p hp => by rw [hW1, hsb]; simp [hp]
  have hn : ps.length ≤ 100001 := by
    have := cutC_count 43 s.data.toList
    rw [← hps, List.length_map, size_toList] at this; omega
  have hsz : ∀ p ∈ ps, p.size ≤ 100000 := fun p hp => by
    have := cutC_len 43 s.data.toList p.data.toList (by rw [← hps]; exact List.mem_map.2 ⟨p, hp, rfl⟩)
    rw [size_toList, size_toList] at this; omega
  have HP := Lib.hid (opsR_cut hps)
  have HB1 := Lib.hid B1
  have HC := Lib.hid hcells
  have HZ := Lib.hid hsz
  have HSB := Lib.hid hsb
  obtain ⟨n₀, hn₀⟩ : ∃ n, n = W1.heap.size := ⟨_, rfl⟩
  have hsn : sb < n₀ := by omega
  have HN := Lib.hid hn₀
  rw [← hsb]
  clear hW1 hps B1 hcells hsz hsb sz1 hn₀
  go_wp2_with fail
  go_loopw [4, 14] (fun v i wr => ∃ k : Nat, k ≤ ps.length ∧ i = .int .i64 k ∧ wr.ownsRow n₀ 44 7 v k (flatO ((opsR ps).take k)) ∧ Below n₀ W1 wr) (fun _ i _ => ps.length - (intOf i).toNat)
  case atStart => exact ⟨0, Nat.zero_le _, rfl, World.ownsRow_nil _ _ _ _, Below.refl _ _⟩
  case round =>
    obtain ⟨k, hk, rfl, hown, hB⟩ := hrel
    have hsz0 : n₀ ≤ wr.heap.size := by rw [HN.out]; exact hB.size
    have hBw : Below w.heap.size w wr := below_trans HB1.out HB1.out.size (by rw [← HN.out]; exact hB)
    have hT := HT.out.below hBw
    have hV := HV.out.below hBw
    by_cases hlt : k < ps.length
    · obtain ⟨x, hx⟩ : ∃ x, ps[k]? = some x := ⟨_, List.getElem?_eq_getElem hlt⟩
      have c1 : wr.cell? ⟨sb, k, none⟩ = some (.string x) := (hB.cell (p := ⟨sb, k, none⟩) hsn).trans (HC.out k x hx)
      have hxl := HZ.out x (List.mem_of_getElem? hx)
      have HS := Lib.hid (split_any 32 x wr hxl hV)
      have HX := Lib.hid hx
      have HO := Lib.hid hown
      have HB := Lib.hid hB
      have HBw := Lib.hid hBw
      have HTr := Lib.hid hT
      have HVr := Lib.hid hV
      have hsb : sb < wr.heap.size := by omega
      clear hx hown hB hBw hT hV
      go_wp2_with fail
      refine HS.out.mono ?_
      rintro e W2 ⟨ws, hws, rfl, hW2⟩
      obtain ⟨g, hg⟩ : ∃ g, g = wr.heap.size := ⟨_, rfl⟩
      have hwl : ws.length ≤ 100001 := by
        have := cutC_count 32 x.data.toList
        rw [← hws, List.length_map, size_toList] at this; omega
      have ho2 : W2.ownsRow g 9 1 (.slice (some ⟨g, 0, none⟩) ws.length ws.length) ws.length (ws.map Value.string) := by
        rw [hW2, hg]
        exact own_row _ _ _ _ _ _ (by simp) (Nat.le_refl _) (by simp) (by unfold maxLen; omega)
      have b2 : Below wr.heap.size wr W2 := by rw [hW2]; exact (Below.refl _ _).alloc (Nat.le_refl _) _
      have s2 : g < W2.heap.size := by rw [hW2, hg]; simp
      have HO2 := Lib.hid ho2
      have HB2 := Lib.hid b2
      have HG := Lib.hid hg
      have HWS := Lib.hid hws
      rw [← hg]
      clear hW2 hws ho2 b2 hg
      go_wp2_with (at_builtin; refine wpList_append_own _ rfl _ _ 33 rfl g 9 j0 (.string ⟨#[]⟩) 1 16 Tryz.underlying33 hj0 hy0 hy1 hy2 rfl (by decide) _ _ _ rfl (HO2.out.alloc _) ⟨_, 0, none⟩ 7 7 [.string ⟨#[]⟩, .string ⟨#[]⟩, .string ⟨#[]⟩, .string ⟨#[]⟩, .string ⟨#[]⟩, .string ⟨#[]⟩, .string ⟨#[]⟩] rfl rfl (row_newO _ _ _) (by simp [Value.oneCell']) (by unfold maxLen; omega) (by omega) (by simp; omega) ?_; intro v3 W3 ho3 hgr3 _; have ho3' : W3.ownsRow g 9 1 v3 (ws.length + 7) ((paddB ws).map Value.string) := (by unfold paddB; rw [List.map_append]; exact ho3); obtain ⟨b3, cap3, rfl, hb3, hl3, hc3⟩ := own_cells ho3' (by unfold paddB; simp); have hg3 := World.grownBy.size hgr3; have HGR := Lib.hid hgr3; have HC3 := Lib.hid hc3; clear ho3 ho3' hgr3 hc3)
      obtain ⟨bx, hbx⟩ : ∃ bx, bx = W3.heap.size := ⟨_, rfl⟩
      obtain ⟨nw, hnw⟩ : ∃ nw, nw = ws.length + 7 := ⟨_, rfl⟩
      rw [← hnw]
      obtain ⟨V, hV⟩ : ∃ V, V = W3.alloc (.cells #[.slice (some ⟨b3, 0, none⟩) nw cap3] 33) := ⟨_, rfl⟩
      have bW3 : Below wr.heap.size wr W3 := (HB2.out.alloc HB2.out.size _).grown HGR.out (by have := HB2.out.size; simp; omega) (fun q hq => by cases hq; rw [HG.out]; exact Nat.le_refl _)
      have bV : Below wr.heap.size wr V := by rw [hV]; exact bW3.alloc bW3.size _
      have kb : V.cell? ⟨bx, 0, none⟩ = some (.slice (some ⟨b3, 0, none⟩) nw cap3) := by rw [hV, hbx]; simp
      have hbxV : bx < V.heap.size := by rw [hV, hbx]; simp
      have hb3V : b3 < V.heap.size := by rw [hV]; simp; omega
      have hbr : wr.heap.size ≤ b3 := by rw [← HG.out]; exact hb3
      have hbx2 : wr.heap.size ≤ bx := by rw [hbx]; exact bW3.size
      have hcV : ∀ i y, (paddB ws)[i]? = some y → V.cell? ⟨b3, i, none⟩ = some (.string y) := fun i y h => by rw [hV]; exact (World.cell?_alloc_lt _ _ ⟨b3, i, none⟩ hl3).trans (HC3.out i y h)
      obtain ⟨y0, y1, y2, y3, y4, y5, y6, r, hp⟩ := padd7 ws
      have hyl : ∀ y ∈ paddB ws, y.size ≤ 100000 := fun y hy => by
        rcases List.mem_append.1 hy with hy | hy
        · have := cutC_len 32 x.data.toList y.data.toList (by rw [← HWS.out]; exact List.mem_map.2 ⟨y, hy, rfl⟩)
          rw [size_toList, size_toList] at this; omega
        · simp only [List.mem_cons, List.not_mem_nil, or_false, or_self] at hy
          subst hy; exact Nat.zero_le _
      have hpc := padd_piece HWS.out hp
      rw [hp] at hcV hyl
      have c0 : V.cell? ⟨b3, 0, none⟩ = some (.string y0) := hcV 0 _ rfl
      have c1 : V.cell? ⟨b3, 1, none⟩ = some (.string y1) := hcV 1 _ rfl
      have c2 : V.cell? ⟨b3, 2, none⟩ = some (.string y2) := hcV 2 _ rfl
      have c3 : V.cell? ⟨b3, 3, none⟩ = some (.string y3) := hcV 3 _ rfl
      have c4 : V.cell? ⟨b3, 4, none⟩ = some (.string y4) := hcV 4 _ rfl
      have c5 : V.cell? ⟨b3, 5, none⟩ = some (.string y5) := hcV 5 _ rfl
      have c6 : V.cell? ⟨b3, 6, none⟩ = some (.string y6) := hcV 6 _ rfl
      have tV := HTr.out.below bV
      have nV := HVr.out.below bV
      obtain ⟨m0, hm0⟩ : ∃ m, m = numR y0.data.toList := ⟨_, rfl⟩
      obtain ⟨m1, hm1⟩ : ∃ m, m = numR y1.data.toList := ⟨_, rfl⟩
      obtain ⟨m3, hm3⟩ : ∃ m, m = numR y3.data.toList := ⟨_, rfl⟩
      obtain ⟨m4, hm4⟩ : ∃ m, m = numR y4.data.toList := ⟨_, rfl⟩
      obtain ⟨m5, hm5⟩ : ∃ m, m = numR y5.data.toList := ⟨_, rfl⟩
      obtain ⟨z2, hz2⟩ : ∃ z, z = undash y2.data.toList := ⟨_, rfl⟩
      obtain ⟨z6, hz6⟩ : ∃ z, z = undash y6.data.toList := ⟨_, rfl⟩
      have N0 : ∀ X, Below V.heap.size V X → Calls Tryz.prog 9 #[.int .i64 0, .pointer (some ⟨bx, 0, none⟩)] X fun e w' => e = .returned (.int .i64 m0) ∧ Below X.heap.size X w' := fun X hX => by
        rw [hm0]; exact rnum_any bx b3 0 nw cap3 y0 X (below_cell hX hbxV kb) (by omega) (by omega) (below_cell hX hb3V c0) (hyl _ (by simp)) (tV.below hX) (nV.below hX)
      have N1 : ∀ X, Below V.heap.size V X → Calls Tryz.prog 9 #[.int .i64 1, .pointer (some ⟨bx, 0, none⟩)] X fun e w' => e = .returned (.int .i64 m1) ∧ Below X.heap.size X w' := fun X hX => by
        rw [hm1]; exact rnum_any bx b3 1 nw cap3 y1 X (below_cell hX hbxV kb) (by omega) (by omega) (below_cell hX hb3V c1) (hyl _ (by simp)) (tV.below hX) (nV.below hX)
      have N3 : ∀ X, Below V.heap.size V X → Calls Tryz.prog 9 #[.int .i64 3, .pointer (some ⟨bx, 0, none⟩)] X fun e w' => e = .returned (.int .i64 m3) ∧ Below X.heap.size X w' := fun X hX => by
        rw [hm3]; exact rnum_any bx b3 3 nw cap3 y3 X (below_cell hX hbxV kb) (by omega) (by omega) (below_cell hX hb3V c3) (hyl _ (by simp)) (tV.below hX) (nV.below hX)
      have N4 : ∀ X, Below V.heap.size V X → Calls Tryz.prog 9 #[.int .i64 4, .pointer (some ⟨bx, 0, none⟩)] X fun e w' => e = .returned (.int .i64 m4) ∧ Below X.heap.size X w' := fun X hX => by
        rw [hm4]; exact rnum_any bx b3 4 nw cap3 y4 X (below_cell hX hbxV kb) (by omega) (by omega) (below_cell hX hb3V c4) (hyl _ (by simp)) (tV.below hX) (nV.below hX)
      have N5 : ∀ X, Below V.heap.size V X → Calls Tryz.prog 9 #[.int .i64 5, .pointer (some ⟨bx, 0, none⟩)] X fun e w' => e = .returned (.int .i64 m5) ∧ Below X.heap.size X w' := fun X hX => by
        rw [hm5]; exact rnum_any bx b3 5 nw cap3 y5 X (below_cell hX hbxV kb) (by omega) (by omega) (below_cell hX hb3V c5) (hyl _ (by simp)) (tV.below hX) (nV.below hX)
      have P2 : ∀ X, Calls Tryz.prog 11 #[.string y2] X fun e w' => e = .returned (.string z2) ∧ Below X.heap.size X w' := fun X => by rw [hz2]; exact (rplain_any y2 X).mono fun _ _ ⟨h1, h2⟩ => ⟨h1, by rw [h2]; exact Below.refl _ _⟩
      have P6 : ∀ X, Calls Tryz.prog 11 #[.string y6] X fun e w' => e = .returned (.string z6) ∧ Below X.heap.size X w' := fun X => by rw [hz6]; exact (rplain_any y6 X).mono fun _ _ ⟨h1, h2⟩ => ⟨h1, by rw [h2]; exact Below.refl _ _⟩
      rw [← hm0, ← hm1, ← hm3, ← hm4, ← hm5, ← hz2, ← hz6] at hpc
      have N0 := Lib.hid N0
      have N1 := Lib.hid N1
      have N3 := Lib.hid N3
      have N4 := Lib.hid N4
      have N5 := Lib.hid N5
      have P2 := Lib.hid P2
      have P6 := Lib.hid P6
      have HPC := Lib.hid hpc
      have HSN := Lib.hid (opsR_snoc HX.out)
      have HVV := Lib.hid hV
      have HBX := Lib.hid hbx
      have HBV := Lib.hid bV
      have q0 := Lib.hid (Below.refl V.heap.size V).drew
      have hVs : V.heap.size ≤ V.heap.size := Nat.le_refl _
      rw [← hbx, ← hV]
      have i2 : (2 : Int) < (nw : Int) := by omega
      have i6 : (6 : Int) < (nw : Int) := by omega
      clear hnw hpc hcV hyl hp tV nV hm0 hm1 hm3 hm4 hm5 hz2 hz6 bW3 bV hV hbx c0 c1 c3 c4 c5
      go_region_held3 (fun W => W.cell? ⟨bx, 0, none⟩ = some (.slice (some ⟨b3, 0, none⟩) nw cap3) ∧ W.cell? ⟨b3, 2, none⟩ = some (.string y2) ∧ W.cell? ⟨b3, 6, none⟩ = some (.string y6))
        (first | exact ⟨kb, c2, c6⟩ | exact hS1.out | exact hS2.out | exact hS3.out | exact hS4.out | exact hS5.out | exact hS6.out | exact hS7.out | exact ⟨below_cell (q7.out.alloc q7.out.size _) hbxV kb, below_cell (q7.out.alloc q7.out.size _) hb3V c2, below_cell (q7.out.alloc q7.out.size _) hb3V c6⟩ | exact hS8.out)
        (first
          | (go_at_call 9; (with_reducible refine (N0.out _ q0.out).mono ?_); rintro e u1 ⟨rfl, b1⟩; have q1 := Lib.hid (below_trans q0.out q0.out.size b1); clear b1; have hS1 := Lib.hid (And.intro (below_cell q1.out hbxV kb) (And.intro (below_cell q1.out hb3V c2) (below_cell q1.out hb3V c6))))
          | (go_at_call 9; (with_reducible refine (N1.out _ q1.out).mono ?_); rintro e u2 ⟨rfl, b1⟩; have q2 := Lib.hid (below_trans q1.out q1.out.size b1); clear b1; have hS2 := Lib.hid (And.intro (below_cell q2.out hbxV kb) (And.intro (below_cell q2.out hb3V c2) (below_cell q2.out hb3V c6))))
          | (go_at_call 11; (with_reducible refine (P2.out _).mono ?_); rintro e u3 ⟨rfl, b1⟩; have q3 := Lib.hid (below_trans q2.out q2.out.size b1); clear b1; have hS3 := Lib.hid (And.intro (below_cell q3.out hbxV kb) (And.intro (below_cell q3.out hb3V c2) (below_cell q3.out hb3V c6))))
          | (go_at_call 9; (with_reducible refine (N3.out _ q3.out).mono ?_); rintro e u4 ⟨rfl, b1⟩; have q4 := Lib.hid (below_trans q3.out q3.out.size b1); clear b1; have hS4 := Lib.hid (And.intro (below_cell q4.out hbxV kb) (And.intro (below_cell q4.out hb3V c2) (below_cell q4.out hb3V c6))))
          | (go_at_call 9; (with_reducible refine (N4.out _ q4.out).mono ?_); rintro e u5 ⟨rfl, b1⟩; have q5 := Lib.hid (below_trans q4.out q4.out.size b1); clear b1; have hS5 := Lib.hid (And.intro (below_cell q5.out hbxV kb) (And.intro (below_cell q5.out hb3V c2) (below_cell q5.out hb3V c6))))
          | (go_at_call 9; (with_reducible refine (N5.out _ q5.out).mono ?_); rintro e u6 ⟨rfl, b1⟩; have q6 := Lib.hid (below_trans q5.out q5.out.size b1); clear b1; have hS6 := Lib.hid (And.intro (below_cell q6.out hbxV kb) (And.intro (below_cell q6.out hb3V c2) (below_cell q6.out hb3V c6))))
          | (go_at_call 11; (with_reducible refine (P6.out _).mono ?_); rintro e u7 ⟨rfl, b1⟩; have q7 := Lib.hid (below_trans q6.out q6.out.size b1); clear b1; have hS7 := Lib.hid (And.intro (below_cell q7.out hbxV kb) (And.intro (below_cell q7.out hb3V c2) (below_cell q7.out hb3V c6))))
          | (refine step_append_own rfl _ _ 22 rfl n₀ 44 i0 (.agg #[.int .i64 0, .int .i64 0, .string ⟨#[]⟩, .int .i64 0, .int .i64 0, .int .i64 0, .string ⟨#[]⟩]) 7 72 Tryz.underlying22 hi0 hz0 hz1 hz2 rfl (by decide) _ k _ rfl (ownsRow_below HO.out (below_trans HBV.out HBV.out.size (q7.out.alloc q7.out.size _))) ⟨u7.heap.size, 0, none⟩ 1 1 [.int .i64 m0, .int .i64 m1, .string z2, .int .i64 m3, .int .i64 m4, .int .i64 m5, .string z6] rfl rfl (row_newO _ _ _) (by simp [Value.oneCell']) (by unfold maxLen; omega) (by omega) (by have h1 := q7.out.size; have h2 := HBV.out.size; simp; omega) ?_; intro v8 w8 hown8 hgrow8 _; have HO8 := Lib.hid hown8; have HG8 := Lib.hid hgrow8; have hS8 := Lib.hid (And.intro (rd_kept hgrow8 HO.out (q7.out.alloc q7.out.size _) hbxV hbx2 kb) (And.intro (rd_kept hgrow8 HO.out (q7.out.alloc q7.out.size _) hb3V hbr c2) (rd_kept hgrow8 HO.out (q7.out.alloc q7.out.size _) hb3V hbr c6))); clear hown8 hgrow8))
      have hB7 : Below wr.heap.size wr u7 := below_trans HBV.out HBV.out.size q7.out
      have hB8 : Below n₀ W1 w8 := (HB.out.trans ((hB7.alloc hB7.size _).mono hsz0)).grown HG8.out (by have := hB7.size; simp; omega) (fun q hq => (HO.out.lt q hq).1)
      have hO8 : w8.ownsRow n₀ 44 7 v8 (k + 1) (flatO ((opsR ps).take (k + 1))) := by rw [HSN.out, HPC.out]; exact HO8.out
      have HB8 := Lib.hid hB8
      have HO9 := Lib.hid hO8
      clear hB7 hB8 hO8 hS1 hS2 hS3 hS4 hS5 hS6 hS7 hS8 q0 q1 q2 q3 q4 q5 q6 q7 kb c2 c6 i2 i6
      go_wp2
      exact ⟨⟨k + 1, by omega, by go_num, HO9.out, HB8.out⟩, by simp [intOf]; omega⟩
    · obtain rfl : k = ps.length := by omega
      have he : (opsR ps).take ps.length = opsR ps := List.take_of_length_le (by simp [opsR])
      rw [he] at hown
      obtain ⟨ao, cap, rfl, hops⟩ := ownsRow_ops hown
      have hW := rwrite_any ao cap (opsR ps) wr hops (fun o ho => by
        obtain ⟨p, hp, rfl⟩ := List.mem_map.1 ho
        exact pieceR_size _ (by rw [size_toList]; exact HZ.out p hp)) hT
      have HW := Lib.hid hW
      have HO := Lib.hid hops
      have HBw := Lib.hid hBw
      clear he hown hops hW hB hBw hT hV
      have hR : readR s.data.toList = if okT (opsR ps) s.data.toList then some (opsR ps) else none := by unfold readR; rw [HP.out]
      generalize opsR ps = L at *
      cases hok : lenB L && L.all opB
      · have hno : readR s.data.toList = none := by rw [hR, show okT L s.data.toList = false by unfold okT; rw [← Bool.and_assoc, hok]; rfl]; rfl
        have hcase : (∃ T i, writeR L = (T, 4, i)) ∨ (∃ T i, writeR L = (T, 1, i)) := by
          unfold writeR
          cases h1 : lenB L
          · exact .inl ⟨_, _, rfl⟩
          · rw [h1, Bool.true_and] at hok; rw [hok]; exact .inr ⟨_, _, rfl⟩
        have HNO := Lib.hid hno
        clear hno hR hok
        rcases hcase with ⟨T, i, hw⟩ | ⟨T, i, hw⟩
        all_goals
          rw [hw] at HW
          clear hw
          go_wp2_with fail
          refine HW.out.mono ?_
          rintro e w2 ⟨rfl, b2⟩
          have HB2 := Lib.hid ((below_trans HBw.out HBw.out.size b2).alloc (below_trans HBw.out HBw.out.size b2).size (.cells #[.int .i64 0, .int .i64 0] 46))
          have HB3 := Lib.hid (below_trans HBw.out HBw.out.size b2)
          clear b2 HB2
          go_wp2_with fail
          go_ret2
          exact ⟨.inr ⟨rfl, HNO.out⟩, HB3.out.alloc HB3.out.size _⟩
      · have hwr := writeR_good (Bool.and_eq_true_iff.1 hok).1 (Bool.and_eq_true_iff.1 hok).2
        rw [hwr] at HW
        by_cases hs2 : writeT L = s.data.toList
        · have hyes : readR s.data.toList = some L := by rw [hR, show okT L s.data.toList = true by unfold okT; rw [← Bool.and_assoc, hok, hs2]; simp]; rfl
          have hne : (!writeT L == s.toList) = false := by rw [ByteArray.toList_eq, hs2]; simp
          have HY := Lib.hid hyes
          clear hs2 hyes hR hok hwr
          go_wp2_with fail
          refine HW.out.mono ?_
          rintro e w2 ⟨rfl, b2⟩
          have HB3 := Lib.hid (below_trans HBw.out HBw.out.size b2)
          have HO3 := Lib.hid (HO.out.below b2)
          clear b2
          simp only
          go_wp2_with fail
          go_ret2
          exact ⟨.inl ⟨L, ao, cap, rfl, HY.out, HO3.out.below ((Below.refl _ _).alloc (Nat.le_refl _) _)⟩, HB3.out.alloc HB3.out.size _⟩
        · have hno : readR s.data.toList = none := by rw [hR, show okT L s.data.toList = false by unfold okT; rw [← Bool.and_assoc, hok]; simp [hs2]]; rfl
          have hne : (!writeT L == s.toList) = true := by rw [ByteArray.toList_eq]; simp [hs2]
          have HNO := Lib.hid hno
          clear hs2 hno hR hok hwr
          go_wp2_with fail
          refine HW.out.mono ?_
          rintro e w2 ⟨rfl, b2⟩
          have HB3 := Lib.hid (below_trans HBw.out HBw.out.size b2)
          clear b2
          simp only
          go_wp2_with fail
          go_ret2
          exact ⟨.inr ⟨rfl, HNO.out⟩, HB3.out.alloc HB3.out.size _⟩
end Go.Proofs.YtjgmgaleaihjpaaGreatDoor
