/- What both pasts tell of one question, in the same words. -/
import Derived.Laws.AppendOwnNone
import Derived.Lib.AppendZeros
import Derived.Deep.RegionHeld3
import Derived.Deep.DeepCutAuto
import Derived.Test.YtflhpmgjehjjkaaGreatDoorPsCJo
import Derived.Test.YtflhpmgjehjjkaaGreatDoorAppMJo
import Derived.Test.YtflhpmgjehjjkaaGreatDoorPwIJo
import Derived.Test.YtflhpmgjehjjkaaGreatDoorErrCJo
import Derived.Test.YtflhpmgjehjjkaaGreatDoorRpMJo
import Derived.Test.YtflhpmgjehjjkaaGreatDoorSqGJo
import Derived.Test.YtflhpmgjehjjkaaGreatDoorRpJJo
import Derived.Test.YtflhpmgjehjjkaaGreatDoorInLJo
import Derived.Test.YtflhpmgjehjjkaaGreatDoorRpLJo
import Derived.Test.YtflhpmgjehjjkaaGreatDoorPwNJo
import Derived.Test.YtflhpmgjehjjkaaGreatDoorRpIJo
import Derived.Test.YtflhpmgjehjjkaaGreatDoorAppJo
import Derived.Test.YtflhpmgjehjjkaaGreatDoorPwMJo
namespace Go.Proofs.YtflhpmgjehjjkaaGreatDoor
open Go.RowKit Go.Deep Go.Shelf Go.Sort Go.Maps

theorem RP.mono {F G : Nat → Prop} {w : World} {rb : Nat} {hist : List (List OpP)} {known : Int} (h : RP F w rb hist known) (hG : ∀ k, G k → F k) : RP G w rb hist known := by
  obtain ⟨⟨ao, c, h1, hc, h2⟩, h3, h4, h5⟩ := h
  refine ⟨⟨ao, c, h1, hc, fun i t ht => ?_⟩, fun e => h3 (hG _ e), h4, h5⟩
  obtain ⟨b0, b, cap, e, ⟨p1, p2, p3⟩, p4, ⟨q1, q2, q3⟩, q4⟩ := h2 i t ht
  exact ⟨b0, b, cap, e, ⟨p1, p2, fun e => p3 (hG _ e)⟩, p4, ⟨q1, q2, fun e => q3 (hG _ e)⟩, q4⟩
theorem opsAt_flat {w : World} {b f : Nat} {l : List OpP} (h : opsAt w (some ⟨b, f, none⟩) l) : ∀ j u, (flatW l)[j]? = some u → w.cell? ⟨b, f + j, none⟩ = some u := by
  intro j u hj
  have hlt : j < l.length * 7 := by rw [← flatW_length]; exact (List.getElem?_eq_some_iff.1 hj).1
  have hi : j / 7 < l.length := by omega
  obtain ⟨o, ho⟩ : ∃ o, l[j / 7]? = some o := ⟨_, List.getElem?_eq_getElem hi⟩
  obtain ⟨u', hu'⟩ : ∃ u', (opCells o)[j % 7]? = some u' := ⟨_, List.getElem?_eq_getElem (by rw [show (opCells o).length = 7 from rfl]; omega)⟩
  have h1 := flatW_get l (j / 7) (j % 7) o u' ho hu'
  rw [show j / 7 * 7 + j % 7 = j by omega, hj] at h1
  cases h1
  obtain ⟨b', f', e, hc⟩ := h (j / 7) o ho
  cases e
  have := hc (j % 7) _ hu'
  rw [show f + j / 7 * 7 + j % 7 = f + j by omega] at this
  exact this
/-- The headers of the transactions, as a list. -/
theorem RP.hdrs {F : Nat → Prop} {w : World} {rb : Nat} {hist : List (List OpP)} {known : Int} (h : RP F w rb hist known) : ∃ ao c, w.heap[rb]? = some (.cells #[.slice ao hist.length c, .int .i64 known] 57 (0, 0)) ∧ (ao = none → hist.length = 0 ∧ c = 0) ∧ ∃ hs : List Value, hs.length = hist.length ∧ (∀ p, ao = some p → p = ⟨p.block, 0, none⟩ ∨ hist.length = 0) ∧ (∀ p, ao = some p → ∀ i u, hs[i]? = some u → w.cell? (p.add i) = some u) ∧
    ∀ (i : Nat) u t, hs[i]? = some u → hist[i]? = some t → ∃ b cap, u = .slice (some ⟨b, 0, none⟩) t.length cap ∧ (b < w.heap.size ∧ b ≠ rb ∧ ¬ F b) ∧ opsAt w (some ⟨b, 0, none⟩) t := by
  obtain ⟨⟨ao, c, h1, hc, h2⟩, _, _, _⟩ := h
  have key : ∀ i, i < hist.length → ∃ u : Value, (∀ p, ao = some p → w.cell? (p.add i) = some u) ∧ (∀ p, ao = some p → p = ⟨p.block, 0, none⟩) ∧ ∀ t, hist[i]? = some t → ∃ b cap, u = .slice (some ⟨b, 0, none⟩) t.length cap ∧ (b < w.heap.size ∧ b ≠ rb ∧ ¬ F b) ∧ opsAt w (some ⟨b, 0, none⟩) t := fun i hi => by
    obtain ⟨t, ht⟩ : ∃ t, hist[i]? = some t := ⟨_, List.getElem?_eq_getElem hi⟩
    obtain ⟨b0, b, cap, rfl, p1, p2, p3, p4⟩ := h2 i t ht
    have hadd : ∀ k, (⟨b0, 0, none⟩ : Addr).add k = ⟨b0, k, none⟩ := fun k => by unfold Addr.add; split <;> simp_all
    exact ⟨_, fun p e => by cases e; rw [hadd]; exact p2, fun p e => by cases e; rfl, fun t' ht' => by rw [ht] at ht'; cases ht'; exact ⟨b, cap, rfl, p3, p4⟩⟩
  haveI : Inhabited Value := ⟨.nilIface⟩
  obtain ⟨q, hq⟩ := Go.Deep.choose_lt key
  have hget : ∀ (i : Nat) u, ((List.range hist.length).map q)[i]? = some u → i < hist.length ∧ u = q i := fun i u hu => by
    simp only [List.getElem?_map, Option.map_eq_some_iff] at hu
    obtain ⟨i', hi', rfl⟩ := hu
    obtain ⟨hlt, rfl⟩ := List.getElem?_eq_some_iff.1 hi'
    simp only [List.length_range] at hlt
    exact ⟨hlt, by simp⟩
  refine ⟨ao, c, h1, fun e => ⟨by have := hc.2.2 e; have := hc.1; omega, hc.2.2 e⟩, (List.range hist.length).map q, by simp, fun p e => ?_, fun p e i u hu => ?_, fun i u t hu ht => ?_⟩
  · rcases Nat.eq_zero_or_pos hist.length with h0 | h0
    · exact .inr h0
    · exact .inl ((hq 0 h0).2.1 p e)
  · obtain ⟨hlt, rfl⟩ := hget i u hu
    exact (hq i hlt).1 p e
  · obtain ⟨hlt, rfl⟩ := hget i u hu
    exact (hq i hlt).2.2 t ht
section
variable {F : Nat → Prop} {rb : Nat} {hist : List (List OpP)} {known : Int}
set_option maxRecDepth 100000 in
set_option maxHeartbeats 4000000 in
theorem rpcommit_ok (ao : Option Addr) (c : Nat) (l : List OpP) (w : World) (h : RP F w rb hist known) (hl : opsAt w ao l) (hok : okL l = true) (hg : PowTab w) (hF : ∀ k, F k → k < w.heap.size) (hn : hist.length < 150) :
    Calls Tryz.prog 21 #[.pointer (some ⟨rb, 0, none⟩), .slice ao l.length c] w fun e w' => e = .returned (.agg #[.int .i64 0, .int .i64 (-1)]) ∧ RP F w' rb (hist ++ [l]) known ∧ Fr (· = rb) w w' := by
  obtain ⟨⟨hl1, hl8⟩, hall⟩ := okL_iff.1 hok
  obtain ⟨W1, hW1⟩ : ∃ W1, W1 = w.alloc (.cells #[.int .i64 0, .int .i64 0] 61) := ⟨_, rfl⟩
  have hB1 : Below w.heap.size w W1 := by rw [hW1]; exact (Below.refl _ _).alloc (Nat.le_refl _) _
  have hx1 : W1.heap[w.heap.size]? = some (.cells #[.int .i64 0, .int .i64 0] 61 (0, 0)) := by rw [hW1]; exact heap_alloc_new _ _
  have hsz : ∀ o ∈ l, o.key.word.size ≤ 100000 ∧ o.value.size ≤ 100000 := fun o ho => by
    have h1 := List.all_eq_true.1 hall o ho
    have h2 := (wfkey (op_key h1)).2
    rcases op_value h1 with h3 | h3
    · omega
    · unfold wordB at h3; simp at h3; omega
  have hw := rwrite_any ao c l W1 (hl.below hB1) hsz (hg.below hB1)
  rw [okL_write hok] at hw
  have HW := Lib.hid hw
  have HW1 := Lib.hid hW1
  have HB1 := Lib.hid hB1
  have HX1 := Lib.hid hx1
  have HL := Lib.hid hl
  have HP := Lib.hid h
  have HF := Lib.hid hF
  have HOK := Lib.hid hok
  clear hw hW1 hB1 hx1 hl h hF hok hsz hall hg
  go_enter Tryz.func21, Tryz.ntmps21
  go_wp2_with fail
  rw [← HW1.out]
  refine HW.out.mono ?_
  rintro e W2 ⟨rfl, b2⟩
  obtain ⟨W3, hW3⟩ : ∃ W3, W3 = W2.alloc (.cells #[.int .i64 0, .int .i64 (-1)] 61) := ⟨_, rfl⟩
  have b23 : Below W2.heap.size W2 W3 := by rw [hW3]; exact (Below.refl _ _).alloc (Nat.le_refl _) _
  have hx3 : W3.heap[W2.heap.size]? = some (.cells #[.int .i64 0, .int .i64 (-1)] 61 (0, 0)) := by rw [hW3]; exact heap_alloc_new _ _
  have b13 : Below W1.heap.size W1 W3 := below_trans b2 b2.size b23
  have b03 : Below w.heap.size w W3 := HB1.out.trans (b13.mono HB1.out.size)
  have hP3 := HP.out.below b03
  have hwl : w.heap.size < W1.heap.size := lt_of_block HX1.out
  have hx13 : W3.heap[w.heap.size]? = some (.cells #[.int .i64 0, .int .i64 0] 61 (0, 0)) := (b13.block _ hwl).trans HX1.out
  have CN := Lib.hid (rpnow_any W3 hP3)
  obtain ⟨ao0, c0, hrbw, hnone, hs, hsl, _, hscw, hsg⟩ := HP.out.hdrs
  have hrb := (b03.block rb HP.out.lt).trans hrbw
  have hsc : ∀ p, ao0 = some p → ∀ (i : Nat) (u : Value), hs[i]? = some u → W3.cell? (p.add i) = some u := fun p e i u hu => (b03.cell (World.block_lt_of_cell? w _ (hscw p e i u hu))).trans (hscw p e i u hu)
  have q0 : W3.cell? ⟨W2.heap.size, 0, none⟩ = some (.int .i64 0) := by simp [World.cell?, hx3]
  have hs12 : W1.heap.size ≤ W2.heap.size := b2.size
  have hs23 : W2.heap.size < W3.heap.size := lt_of_block hx3
  have hrl : rb < w.heap.size := HP.out.lt
  have hlb : (hist.length : Int) < 150 := by omega
  have HW3 := Lib.hid hW3
  have HB03 := Lib.hid b03
  have HX13 := Lib.hid hx13
  have HRB := Lib.hid hrb
  have HNO := Lib.hid hnone
  have HSL := Lib.hid hsl
  have HSC := Lib.hid hsc
  have HSG := Lib.hid hsg
  clear hW3 b23 hx3 b13 b03 hx13 hP3 hrb hrbw hnone hsl hsc hscw hsg b2
  go_wp2_with fail
  rw [← HW3.out]
  go_wp2_with fail
  refine CN.out.mono ?_
  rintro e W3 ⟨rfl, rfl⟩
  have hz3 : w.heap.size ≤ W3.heap.size := HB03.out.size
  have hone : ∀ u ∈ hs, u.oneCell' = true := fun u hu => by
    obtain ⟨i, hi, rfl⟩ := List.getElem_of_mem hu
    obtain ⟨t, ht⟩ : ∃ t, hist[i]? = some t := ⟨_, List.getElem?_eq_getElem (by have := HSL.out; omega)⟩
    obtain ⟨b, cap, e, _⟩ := HSG.out i hs[i] t (List.getElem?_eq_getElem hi) ht
    rw [e]; rfl
  have hc4 : ∀ o : Obj, ∀ p, ao0 = some p → ∀ j u, hs[j]? = some u → (W3.alloc o).cell? (p.add j) = some u := fun o p e j u hu => by
    have h1 := HSC.out p e j u hu
    exact ((Below.refl W3.heap.size W3).alloc (Nat.le_refl _) o).cell (World.block_lt_of_cell? W3 _ h1) |>.trans h1
  have r0 : ∀ o : Obj, (W3.alloc o).cell? ⟨rb, 0, none⟩ = some (.slice ao0 hist.length c0) := fun o => by
    have := block_alloc HRB.out o
    simp [World.cell?, this]
  have hll : l ≠ [] := by
    rintro rfl
    simp at hl1
  obtain ⟨bl, fl, hal⟩ : ∃ bl fl, ao = some ⟨bl, fl, none⟩ := by
    obtain ⟨o, ho⟩ : ∃ o, l[0]? = some o := ⟨_, List.getElem?_eq_getElem (by omega)⟩
    obtain ⟨b, f, e, _⟩ := HL.out 0 o ho
    exact ⟨b, f, e⟩
  subst hal
  have hr3 : rb < W3.heap.size := by omega
  have HONE := Lib.hid hone
  have HC4 := Lib.hid hc4
  have HLL := Lib.hid hll
  clear hone hc4 hll
  have hz33 : W3.heap.size ≤ W3.heap.size := Nat.le_refl _
  go_wp2_with (first
    | (at_builtin; refine appMany rfl _ _ 28 rfl W3.heap.size 33 Tryz.underlying28 infoOpsW rfl (by decide) (.slice (some ⟨W3.heap.size, 0, none⟩) 0 0) 0 [] rfl (own_empty W3 hz33) ao0 hist.length c0 rfl HNO.out hs (by rw [HSL.out, Nat.mul_one]) (HC4.out _) HONE.out (by unfold maxLen; omega) (by omega) (by simp) W3 ((Below.refl _ _).alloc hz33 _) ?_; intro v1 w5 h1 b5 s5 g5 n5; have HO1 := Lib.hid h1; have HB5 := Lib.hid b5; have hz5 : W3.heap.size ≤ w5.heap.size := b5.size; have hs35 : W3.heap.size < w5.heap.size := (by simp at s5; omega); have hl5 := Lib.hid (HL.out.below (HB03.out.trans (b5.mono hz3))); clear h1 b5 s5 g5 n5)
    | (at_builtin; refine appMany rfl _ _ 33 rfl w5.heap.size 70 Tryz.underlying33 infoOpW rfl (by decide) (.slice (some ⟨w5.heap.size, 0, none⟩) 0 0) 0 [] rfl (own_empty w5 (Nat.le_refl _)) (some ⟨bl, fl, none⟩) l.length c rfl (fun e => by cases e) (flatW l) (flatW_length l) (fun p e j u hu => by cases e; rw [add_at]; exact opsAt_flat (hl5.out.below ((Below.refl w5.heap.size w5).alloc (Nat.le_refl _) _)) j u hu) (fun u hu => by obtain ⟨o, _, ho⟩ := List.mem_flatMap.1 hu; exact opCells_one o u ho) (by unfold maxLen; omega) (by omega) (by simp) w5 ((Below.refl _ _).alloc (Nat.le_refl _) _) ?_; intro v2 w7 h2 b7 s7 g7 n7; have HO2 := Lib.hid h2; have HB57 := Lib.hid b7; have HB7 := Lib.hid (below_trans HB5.out hz5 (b7 : Below w5.heap.size w5 w7)); have hz7 : W3.heap.size ≤ w7.heap.size := (by have := b7.size; omega); have hs57 : w5.heap.size < w7.heap.size := (by simp at s7; omega); obtain ⟨b2, c2, hv2, hb2, ho2⟩ := ownsRow_opsW (l := l) (by simpa using HO2.out) HLL.out; have hbl2 := (HO2.out.lt b2 (by rw [hv2]; rfl)).2; subst hv2; have HO2' := Lib.hid ho2; clear h2 b7 s7 g7 n7 ho2)
    | (at_builtin; refine appMany rfl _ _ 28 rfl W3.heap.size 33 Tryz.underlying28 infoOpsW rfl (by decide) v1 (0 + hist.length) ([] ++ hs) rfl (ownsRow_below HO1.out (HB57.out.alloc (by omega) _)) (some ⟨w7.heap.size, 0, none⟩) 1 1 rfl (fun e => by cases e) [.slice (some ⟨b2, 0, none⟩) l.length c2] rfl (fun p e j u hu => by cases e; rw [add_at]; match j, hu with | 0, hu => simp at hu; subst hu; simp) (fun u hu => by simp at hu; subst hu; rfl) (by unfold maxLen; omega) (by omega) (by simp; omega) W3 (HB7.out.alloc hz7 _) ?_; intro v3 w9 h3 b9 s9 g9 n9; have HO3 := Lib.hid h3; have HB9 := Lib.hid b9; have HG9 := Lib.hid g9; have hz9 : W3.heap.size ≤ w9.heap.size := b9.size; have hs79 : w7.heap.size < w9.heap.size := (by simp at s9; omega); obtain ⟨a3, c3, hv3, hn3, hc3⟩ := ownsRow_slice h3; subst hv3; have HN3 := Lib.hid hn3; have HC3 := Lib.hid hc3; have hrb9 := (HB9.out.block rb hr3).trans HRB.out; have y0 : w9.cell? ⟨rb, 0, none⟩ = some (.slice ao0 hist.length c0) := (by simp [World.cell?, hrb9]); have z0 : w9.frozen? ⟨rb, 0, none⟩ = false := (by simp [World.frozen?, hrb9]); have hr9 : rb < w9.heap.size := (by omega); have HRB9 := Lib.hid hrb9; clear h3 b9 s9 g9 n9 hn3 hc3 hrb9))
  obtain ⟨W10, hW10⟩ : ∃ W10, W10 = w9.setCell ⟨rb, 0, none⟩ (.slice a3 (hist.length + 1) c3) := ⟨_, rfl⟩
  have hf10 : Fr (· = rb) w9 W10 := by rw [hW10]; exact Fr.setCell (F := (· = rb)) (p := ⟨rb, 0, none⟩) (Fr.refl _ _) (fun _ => rfl) _
  have hrb10 : W10.heap[rb]? = some (.cells #[.slice a3 (hist.length + 1) c3, .int .i64 known] 57 (0, 0)) := by rw [hW10]; have := block_set HRB9.out 0 (.slice a3 (hist.length + 1) c3); simpa using this
  have hwl3 : w.heap.size < W3.heap.size := by omega
  have hx10 : W10.heap[w.heap.size]? = some (.cells #[.int .i64 0, .int .i64 0] 61 (0, 0)) := (hf10.block w.heap.size (by omega) (by omega)).trans ((HB9.out.block _ hwl3).trans HX13.out)
  rw [← hW10]
  have HF10 := Lib.hid hf10
  have HRB10 := Lib.hid hrb10
  have HX10 := Lib.hid hx10
  clear hW10 hf10 hrb10 hx10 y0 z0 r0 q0
  refine (rbare_any 0 W10).mono ?_
  rintro e W11 ⟨rfl, b11⟩
  have hx11 := (b11.block w.heap.size (lt_of_block HX10.out)).trans HX10.out
  have y0 : W11.cell? ⟨w.heap.size, 0, none⟩ = some (.int .i64 0) := by simp [World.cell?, hx11]
  have y1 : W11.cell? ⟨w.heap.size, 1, none⟩ = some (.int .i64 0) := by simp [World.cell?, hx11]
  have z0 : W11.frozen? ⟨w.heap.size, 0, none⟩ = false := by simp [World.frozen?, hx11]
  have z1 : W11.frozen? ⟨w.heap.size, 1, none⟩ = false := by simp [World.frozen?, hx11]
  have hw11 : w.heap.size < W11.heap.size := lt_of_block hx11
  have HX11 := Lib.hid hx11
  have HB11 := Lib.hid b11
  clear hx11 b11
  go_wp2_with fail
  obtain ⟨W12, hW12⟩ : ∃ W12, W12 = (W11.setCell ⟨w.heap.size, 0, none⟩ (.int .i64 0)).setCell ⟨w.heap.size, 1, none⟩ (.int .i64 (-1)) := ⟨_, rfl⟩
  rw [← hW12]
  have hx12 : W12.heap[w.heap.size]? = some (.cells #[.int .i64 0, .int .i64 (-1)] 61 (0, 0)) := by
    rw [hW12]; have := block_set (block_set HX11.out 0 (.int .i64 0)) 1 (.int .i64 (-1)); simpa using this
  have hf12 : Fr (· = w.heap.size) W11 W12 := by
    rw [hW12]; exact Fr.setCell (F := (· = w.heap.size)) (p := ⟨w.heap.size, 1, none⟩) (Fr.setCell (F := (· = w.heap.size)) (p := ⟨w.heap.size, 0, none⟩) (Fr.refl _ _) (fun _ => rfl) _) (fun _ => rfl) _
  have k0 : W12.cell? ⟨w.heap.size, 0, none⟩ = some (.int .i64 0) := by simp [World.cell?, hx12]
  have k1 : W12.cell? ⟨w.heap.size, 1, none⟩ = some (.int .i64 (-1)) := by simp [World.cell?, hx12]
  have hcell : ∃ b3, a3 = some ⟨b3, 0, none⟩ ∧ (W3.heap.size ≤ b3 ∧ b3 < w9.heap.size) := by
    obtain ⟨b3, e, _⟩ := HC3.out hist.length (.slice (some ⟨b2, 0, none⟩) l.length c2) (by rw [List.nil_append, List.getElem?_append_right (by rw [HSL.out]; exact Nat.le_refl _), HSL.out, Nat.sub_self]; rfl)
    exact ⟨b3, e, HO3.out.lt b3 (by rw [e]; rfl)⟩
  obtain ⟨b3, rfl, hb3⟩ := hcell
  have hcc : hist.length + 1 ≤ c3 ∧ c3 ≤ maxLen := by
    rcases HO3.out.2 with ⟨e, _⟩ | ⟨g, cap, cur, e, _, _, h1, h2, _⟩
    · cases e
    · injection e with e1 e2 e3
      subst e3
      exact ⟨by omega, h2⟩
  have hv1 : v1.ownBlock ≠ some b2 := fun e => by have := (HO1.out.lt b2 e).2; have := (HO2.out.lt b2 rfl).1; omega
  have hb2 := HO2.out.lt b2 rfl
  have hRP : RP (fun k => F k ∨ k = w.heap.size) W10 rb (hist ++ [l]) known := by
    refine ⟨⟨some ⟨b3, 0, none⟩, c3, by rw [List.length_append]; exact HRB10.out, ⟨by rw [List.length_append]; exact hcc.1, hcc.2, fun e => by cases e⟩, fun i t ht => ?_⟩, ?_, ?_, ?_⟩
    · have hget : ∀ u, ([] ++ hs ++ [Value.slice (some ⟨b2, 0, none⟩) l.length c2])[i]? = some u → W10.cell? ⟨b3, i, none⟩ = some u := fun u hu => by
        obtain ⟨b', e, hc⟩ := HC3.out i u hu
        cases e
        exact (World.cell?_of_block (a := ⟨b3, i, none⟩) (HF10.out.block b3 hb3.2 (by omega))).trans hc
      have hb3F : ¬ (F b3 ∨ b3 = w.heap.size) := fun e => by
        rcases e with e | e
        · have := HF.out b3 e; omega
        · omega
      have hsz10 := HF10.out.size
      rcases Nat.lt_or_ge i hist.length with hi | hi
      · rw [List.getElem?_append_left hi] at ht
        obtain ⟨u, hu⟩ : ∃ u, hs[i]? = some u := ⟨_, List.getElem?_eq_getElem (by rw [HSL.out]; exact hi)⟩
        obtain ⟨b, cap, rfl, ⟨q1, q2, q3⟩, q4⟩ := HSG.out i u t hu ht
        refine ⟨b3, b, cap, rfl, ⟨by omega, by omega, hb3F⟩, hget _ (by rw [List.nil_append, List.getElem?_append_left (by rw [HSL.out]; exact hi)]; exact hu), ⟨by omega, q2, fun e => e.elim q3 (by omega)⟩, ?_⟩
        exact opsAt_same q4 ((HF10.out.block b (by omega) q2).trans ((HB9.out.block b (by omega)).trans (HB03.out.block b q1)))
      · rw [List.getElem?_append_right hi] at ht
        have h0 : i - hist.length = 0 := by have := (List.getElem?_eq_some_iff.1 ht).1; simp at this; omega
        rw [h0] at ht
        simp at ht
        subst ht
        have hi2 : i = hist.length := by omega
        subst hi2
        refine ⟨b3, b2, c2, rfl, ⟨by omega, by omega, hb3F⟩, hget _ (by rw [List.nil_append, List.getElem?_append_right (by rw [HSL.out]; exact Nat.le_refl _), HSL.out, Nat.sub_self]; rfl), ⟨by omega, by omega, fun e => by
          rcases e with e | e
          · have := HF.out b2 e; omega
          · omega⟩, ?_⟩
        have o8 : opsAt (w7.alloc (.cells #[.slice (some ⟨b2, 0, none⟩) l.length c2] 33)) (some ⟨b2, 0, none⟩) l := HO2'.out.below ((Below.refl _ _).alloc (Nat.le_refl _) _)
        have o9 : opsAt w9 (some ⟨b2, 0, none⟩) l := opsAt_grown o8 HG9.out hv1
        exact opsAt_same o9 (HF10.out.block b2 (by omega) (by omega))
    · rintro (e | e)
      · exact HP.out.nf e
      · omega
    · intro t ht
      rcases List.mem_append.1 ht with h | h
      · exact HP.out.ok t h
      · rw [List.mem_singleton.1 h]; exact HOK.out
    · rw [List.length_append]; simp; omega
  have hF12 : Fr (fun k => F k ∨ k = w.heap.size) W10 W12 := (Fr.new HB11.out).trans (hf12.mono fun k _ e => .inr e)
  have hR12 := (hRP.turn (F' := fun k => F k ∨ k = w.heap.size) hF12 fun k hk => .inl hk).mono (G := F) fun k hk => .inl hk
  have f1 : Fr (· = rb) w w9 := Fr.new (HB03.out.trans (HB9.out.mono hz3))
  have f3 := (f1.next HF10.out fun _ _ h => h).next (Fr.new HB11.out : Fr (fun _ => False) W10 W11) (fun _ _ h => h.elim)
  have f4 := f3.next hf12 (fun k hk e => by omega)
  exact bodyPost_ret (v := .agg #[.int .i64 0, .int .i64 (-1)]) (by simp [results, Tryz.results21, go_sem, k0, k1]) rfl ⟨rfl, hR12, f4⟩
end
end Go.Proofs.YtflhpmgjehjjkaaGreatDoor

namespace Go.Proofs.YtflhpmgjehjjkaaGreatDoor
open Go.RowKit Go.Deep Go.Shelf Go.Sort Go.Maps

section
variable {F : Nat → Prop} {rb : Nat} {hist : List (List OpP)} {known : Int}
/-- What Commit answers, as an error's number and place. -/
def comR (N : Nat) (l : List OpP) : Int × Int := if okL l then (if N < 150 then (0, -1) else (12, -1)) else (writeR l).2
set_option maxRecDepth 100000 in
set_option maxHeartbeats 4000000 in
theorem rpcommit_bad (ao : Option Addr) (c : Nat) (l : List OpP) (w : World) (_h : RP F w rb hist known) (hl : opsAt w ao l) (hok : okL l = false) (hg : PowTab w) (hs : ∀ o ∈ l, o.key.word.size ≤ 100000 ∧ o.value.size ≤ 100000) :
    Calls Tryz.prog 21 #[.pointer (some ⟨rb, 0, none⟩), .slice ao l.length c] w fun e w' => e = .returned (.agg #[.int .i64 (writeR l).2.1, .int .i64 (writeR l).2.2]) ∧ Below w.heap.size w w' := by
  have hne := okL_not hok
  obtain ⟨W1, hW1⟩ : ∃ W1, W1 = w.alloc (.cells #[.int .i64 0, .int .i64 0] 61) := ⟨_, rfl⟩
  have hB1 : Below w.heap.size w W1 := by rw [hW1]; exact (Below.refl _ _).alloc (Nat.le_refl _) _
  have hx1 : W1.heap[w.heap.size]? = some (.cells #[.int .i64 0, .int .i64 0] 61 (0, 0)) := by rw [hW1]; exact heap_alloc_new _ _
  have hw := rwrite_any ao c l W1 (hl.below hB1) hs (hg.below hB1)
  generalize (writeR l).1 = txt at *
  generalize (writeR l).2.1 = n at *
  generalize (writeR l).2.2 = p at *
  have HW := Lib.hid hw
  have HW1 := Lib.hid hW1
  have HB1 := Lib.hid hB1
  have HX1 := Lib.hid hx1
  have hn' : ¬ n = 0 := hne
  clear hw hW1 hB1 hx1 hl _h hok hs hg hne
  go_enter Tryz.func21, Tryz.ntmps21
  go_wp2_with fail
  rw [← HW1.out]
  refine HW.out.mono ?_
  rintro e W2 ⟨rfl, b2⟩
  obtain ⟨W3, hW3⟩ : ∃ W3, W3 = W2.alloc (.cells #[.int .i64 n, .int .i64 p] 61) := ⟨_, rfl⟩
  have b23 : Below W2.heap.size W2 W3 := by rw [hW3]; exact (Below.refl _ _).alloc (Nat.le_refl _) _
  have hx3 : W3.heap[W2.heap.size]? = some (.cells #[.int .i64 n, .int .i64 p] 61 (0, 0)) := by rw [hW3]; exact heap_alloc_new _ _
  have b13 : Below W1.heap.size W1 W3 := below_trans b2 b2.size b23
  have b03 : Below w.heap.size w W3 := HB1.out.trans (b13.mono HB1.out.size)
  have hwl : w.heap.size < W1.heap.size := lt_of_block HX1.out
  have hx13 : W3.heap[w.heap.size]? = some (.cells #[.int .i64 0, .int .i64 0] 61 (0, 0)) := (b13.block _ hwl).trans HX1.out
  have q0 : W3.cell? ⟨W2.heap.size, 0, none⟩ = some (.int .i64 n) := by simp [World.cell?, hx3]
  have q1 : W3.cell? ⟨W2.heap.size, 1, none⟩ = some (.int .i64 p) := by simp [World.cell?, hx3]
  have y0 : W3.cell? ⟨w.heap.size, 0, none⟩ = some (.int .i64 0) := by simp [World.cell?, hx13]
  have y1 : W3.cell? ⟨w.heap.size, 1, none⟩ = some (.int .i64 0) := by simp [World.cell?, hx13]
  have z0 : W3.frozen? ⟨w.heap.size, 0, none⟩ = false := by simp [World.frozen?, hx13]
  have z1 : W3.frozen? ⟨w.heap.size, 1, none⟩ = false := by simp [World.frozen?, hx13]
  have hs12 : W1.heap.size ≤ W2.heap.size := b2.size
  have hs23 : W2.heap.size < W3.heap.size := lt_of_block hx3
  have hw3 : w.heap.size < W3.heap.size := by omega
  have hw3' : w.heap.size < (W2.alloc (.cells #[.int .i64 n, .int .i64 p] 61)).heap.size := by rw [← hW3]; exact hw3
  rw [hW3] at q0 q1 y0 y1 z0 z1
  have HW3 := Lib.hid hW3
  have HB03 := Lib.hid b03
  have HX13 := Lib.hid hx13
  clear hW3 b23 hx3 b13 b03 hx13 b2
  go_wp2_with (fail)
  rw [← HW3.out]
  obtain ⟨W12, hW12⟩ : ∃ W12, W12 = (W3.setCell ⟨w.heap.size, 0, none⟩ (.int .i64 n)).setCell ⟨w.heap.size, 1, none⟩ (.int .i64 p) := ⟨_, rfl⟩
  rw [← hW12]
  have hx12 : W12.heap[w.heap.size]? = some (.cells #[.int .i64 n, .int .i64 p] 61 (0, 0)) := by
    rw [hW12]; have := block_set (block_set HX13.out 0 (.int .i64 n)) 1 (.int .i64 p); simpa using this
  have hb12 : Below w.heap.size w W12 := by
    rw [hW12]; exact (HB03.out.setCell (p := ⟨w.heap.size, 0, none⟩) (Nat.le_refl _) _).setCell (p := ⟨w.heap.size, 1, none⟩) (Nat.le_refl _) _
  have k0 : W12.cell? ⟨w.heap.size, 0, none⟩ = some (.int .i64 n) := by simp [World.cell?, hx12]
  have k1 : W12.cell? ⟨w.heap.size, 1, none⟩ = some (.int .i64 p) := by simp [World.cell?, hx12]
  exact bodyPost_ret (v := .agg #[.int .i64 n, .int .i64 p]) (by simp [results, Tryz.results21, go_sem, k0, k1]) rfl ⟨rfl, hb12⟩
set_option maxRecDepth 100000 in
set_option maxHeartbeats 4000000 in
theorem rpcommit_full (ao : Option Addr) (c : Nat) (l : List OpP) (w : World) (h : RP F w rb hist known) (hl : opsAt w ao l) (hok : okL l = true) (hg : PowTab w) (hn : 150 ≤ hist.length) :
    Calls Tryz.prog 21 #[.pointer (some ⟨rb, 0, none⟩), .slice ao l.length c] w fun e w' => e = .returned (.agg #[.int .i64 12, .int .i64 (-1)]) ∧ Below w.heap.size w w' := by
  obtain ⟨⟨hl1, hl8⟩, hall⟩ := okL_iff.1 hok
  obtain ⟨W1, hW1⟩ : ∃ W1, W1 = w.alloc (.cells #[.int .i64 0, .int .i64 0] 61) := ⟨_, rfl⟩
  have hB1 : Below w.heap.size w W1 := by rw [hW1]; exact (Below.refl _ _).alloc (Nat.le_refl _) _
  have hx1 : W1.heap[w.heap.size]? = some (.cells #[.int .i64 0, .int .i64 0] 61 (0, 0)) := by rw [hW1]; exact heap_alloc_new _ _
  have hsz : ∀ o ∈ l, o.key.word.size ≤ 100000 ∧ o.value.size ≤ 100000 := fun o ho => by
    have h1 := List.all_eq_true.1 hall o ho
    have h2 := (wfkey (op_key h1)).2
    rcases op_value h1 with h3 | h3
    · omega
    · unfold wordB at h3; simp at h3; omega
  have hw := rwrite_any ao c l W1 (hl.below hB1) hsz (hg.below hB1)
  rw [okL_write hok] at hw
  have HW := Lib.hid hw
  have HW1 := Lib.hid hW1
  have HB1 := Lib.hid hB1
  have HX1 := Lib.hid hx1
  have HP := Lib.hid h
  clear hw hW1 hB1 hx1 hl h hok hsz hall hg
  go_enter Tryz.func21, Tryz.ntmps21
  go_wp2_with fail
  rw [← HW1.out]
  refine HW.out.mono ?_
  rintro e W2 ⟨rfl, b2⟩
  obtain ⟨W3, hW3⟩ : ∃ W3, W3 = W2.alloc (.cells #[.int .i64 0, .int .i64 (-1)] 61) := ⟨_, rfl⟩
  have b23 : Below W2.heap.size W2 W3 := by rw [hW3]; exact (Below.refl _ _).alloc (Nat.le_refl _) _
  have hx3 : W3.heap[W2.heap.size]? = some (.cells #[.int .i64 0, .int .i64 (-1)] 61 (0, 0)) := by rw [hW3]; exact heap_alloc_new _ _
  have b13 : Below W1.heap.size W1 W3 := below_trans b2 b2.size b23
  have b03 : Below w.heap.size w W3 := HB1.out.trans (b13.mono HB1.out.size)
  have hwl : w.heap.size < W1.heap.size := lt_of_block HX1.out
  have hx13 : W3.heap[w.heap.size]? = some (.cells #[.int .i64 0, .int .i64 0] 61 (0, 0)) := (b13.block _ hwl).trans HX1.out
  have CN := Lib.hid (rpnow_any W3 (HP.out.below b03))
  have q0 : W3.cell? ⟨W2.heap.size, 0, none⟩ = some (.int .i64 0) := by simp [World.cell?, hx3]
  have hs12 : W1.heap.size ≤ W2.heap.size := b2.size
  have hs23 : W2.heap.size < W3.heap.size := lt_of_block hx3
  have hlb : (150 : Int) ≤ (hist.length : Int) := by omega
  have HW3 := Lib.hid hW3
  have HB03 := Lib.hid b03
  have HX13 := Lib.hid hx13
  clear hW3 b23 hx3 b13 b03 hx13 b2
  go_wp2_with fail
  rw [← HW3.out]
  go_wp2_with fail
  refine CN.out.mono ?_
  rintro e W3 ⟨rfl, rfl⟩
  go_wp2_with fail
  refine (rbare_any 12 W3).mono ?_
  rintro e W11 ⟨rfl, b11⟩
  have hw3 : w.heap.size < W3.heap.size := lt_of_block HX13.out
  have hx11 := (b11.block w.heap.size hw3).trans HX13.out
  have y0 : W11.cell? ⟨w.heap.size, 0, none⟩ = some (.int .i64 0) := by simp [World.cell?, hx11]
  have y1 : W11.cell? ⟨w.heap.size, 1, none⟩ = some (.int .i64 0) := by simp [World.cell?, hx11]
  have z0 : W11.frozen? ⟨w.heap.size, 0, none⟩ = false := by simp [World.frozen?, hx11]
  have z1 : W11.frozen? ⟨w.heap.size, 1, none⟩ = false := by simp [World.frozen?, hx11]
  have hw11 : w.heap.size < W11.heap.size := lt_of_block hx11
  have HX11 := Lib.hid hx11
  have HB11 := Lib.hid (HB03.out.trans (b11.mono HB03.out.size))
  clear hx11 b11
  go_wp2_with fail
  obtain ⟨W12, hW12⟩ : ∃ W12, W12 = (W11.setCell ⟨w.heap.size, 0, none⟩ (.int .i64 12)).setCell ⟨w.heap.size, 1, none⟩ (.int .i64 (-1)) := ⟨_, rfl⟩
  rw [← hW12]
  have hx12 : W12.heap[w.heap.size]? = some (.cells #[.int .i64 12, .int .i64 (-1)] 61 (0, 0)) := by
    rw [hW12]; have := block_set (block_set HX11.out 0 (.int .i64 12)) 1 (.int .i64 (-1)); simpa using this
  have hb12 : Below w.heap.size w W12 := by
    rw [hW12]; exact (HB11.out.setCell (p := ⟨w.heap.size, 0, none⟩) (Nat.le_refl _) _).setCell (p := ⟨w.heap.size, 1, none⟩) (Nat.le_refl _) _
  have k0 : W12.cell? ⟨w.heap.size, 0, none⟩ = some (.int .i64 12) := by simp [World.cell?, hx12]
  have k1 : W12.cell? ⟨w.heap.size, 1, none⟩ = some (.int .i64 (-1)) := by simp [World.cell?, hx12]
  exact bodyPost_ret (v := .agg #[.int .i64 12, .int .i64 (-1)]) (by simp [results, Tryz.results21, go_sem, k0, k1]) rfl ⟨rfl, hb12⟩
end
end Go.Proofs.YtflhpmgjehjjkaaGreatDoor

namespace Go.Proofs.YtflhpmgjehjjkaaGreatDoor
open Go.RowKit Go.Deep Go.Shelf Go.Sort Go.Maps

/-- The map has just these keys. -/
structure KadIs (w : World) (b n : Nat) (L : List KeyP) : Prop where
  nod : L.Nodup
  ok : ∀ x ∈ L, keyB x = true
  own : ∃ D, w.ownsMap Tryz.prog 44 boolR b n D ∧ MapOf kK (fun _ => boolD) D L
theorem KadIs.frame {F : Nat → Prop} {w w' : World} {b n : Nat} {L : List KeyP} (h : KadIs w b n L) (hf : Fr F w w') (hn : ¬ F b) : KadIs w' b n L := by
  obtain ⟨D, h1, h2⟩ := h.own
  exact ⟨h.nod, h.ok, D, owns_frame h1 hf hn, h2⟩
/-- One key more, perhaps there already. -/
theorem kad_put {D : DataW Unit} {L : List KeyP} (hn : L.Nodup) (hok : ∀ x ∈ L, keyB x = true) (h : MapOf kK (fun _ => boolD) D L) (x : KeyP) (hx : keyB x = true) : ∃ L', L'.Nodup ∧ (∀ y ∈ L', keyB y = true) ∧ MapOf kK (fun _ => boolD) (D.put (kK x) boolD) L' ∧ ∀ y, y ∈ L' ↔ y = x ∨ y ∈ L := by
  by_cases hm : x ∈ L
  · obtain ⟨l1, l2, rfl⟩ := List.append_of_mem hm
    have hp : (l1 ++ x :: l2).Perm (x :: (l1 ++ l2)) := List.perm_middle
    have hn' := hp.nodup_iff.1 hn
    obtain ⟨n1, _⟩ := List.nodup_cons.1 hn'
    have h' := (h.perm hp).over x rfl (kK_key x) (fun y hy e => n1 (by rw [← kK_inj (hok y (hp.mem_iff.2 (List.mem_cons_of_mem _ hy))) hx e]; exact hy))
    refine ⟨x :: (l1 ++ l2), hn', fun y hy => hok y (hp.mem_iff.2 hy), h', fun y => ?_⟩
    simp only [List.mem_cons, List.mem_append]
    constructor
    · rintro (h | h | h)
      · exact .inl h
      · exact .inr (.inl h)
      · exact .inr (.inr (.inr h))
    · rintro (h | h | h | h)
      · exact .inl h
      · exact .inr (.inl h)
      · exact .inl h
      · exact .inr (.inr h)
  · refine ⟨x :: L, List.nodup_cons.2 ⟨hm, hn⟩, fun y hy => ?_, h.put x (kK_key x) (fun y hy e => hm (by rw [← kK_inj (hok y hy) hx e]; exact hy)), fun y => List.mem_cons⟩
    rcases List.mem_cons.1 hy with rfl | hy
    · exact hx
    · exact hok y hy
set_option maxRecDepth 100000 in
theorem zeroBoolK (w : World) : (zeroValue 4).run Tryz.prog w = .ok (.bool false) w := by kernel_rfl
set_option maxRecDepth 100000 in
theorem kad_look {w : World} {b n : Nat} {L : List KeyP} (h : KadIs w b n L) {x : KeyP} (hx : keyB x = true) : (Instr.lookup 207 (.map (some b)) (.agg #[.int .i64 x.kind, .int .i64 x.a, .string x.word, .int .i64 x.b]) false).run Tryz.prog w = .ok (.bool (decide (x ∈ L))) w := by
  obtain ⟨D, hown, hD⟩ := h.own
  obtain ⟨u, ps, hr, hu⟩ := hown.lookup keyLaw Tryz.underlying207 (zeroBoolK w) (zd := .lit (.bool false)) (zp := []) rfl (keyOf_key hx)
  have e1 : (D.atKey (kK x) (.lit (.bool false))) = .lit (.bool (decide (x ∈ L))) := by
    by_cases hm : x ∈ L
    · rw [hD.at' x hm, decide_eq_true hm]; rfl
    · rw [decide_eq_false hm]
      exact atKey_of_not_has (hD.none (kK_key x) fun y hy e => hm (by rw [← kK_inj (h.ok y hy) hx e]; exact hy)) _
  rw [e1] at hu
  unfold boolR at hu
  split at hu
  · rename_i c
    simp only [Option.some.injEq, Prod.mk.injEq] at hu
    have e := hu.1
    injection e with e1
    injection e1 with e2
    subst e2
    exact hr
  · cases hu
/-! ### Which keys have been seen -/
def seenO (hist : List (List OpP)) (i q : Nat) : List OpP := (hist.take i).flatten ++ ((hist[i]?).getD []).take q
theorem seenO_zero (hist : List (List OpP)) : seenO hist 0 0 = [] := by simp [seenO]
theorem seenO_op {hist : List (List OpP)} {i q : Nat} {tx : List OpP} {o : OpP} (h : hist[i]? = some tx) (ho : tx[q]? = some o) : seenO hist i (q + 1) = seenO hist i q ++ [o] := by
  unfold seenO
  rw [h, Option.getD_some, List.take_add_one, ho]
  simp
theorem seenO_tx {hist : List (List OpP)} {i : Nat} {tx : List OpP} (h : hist[i]? = some tx) : seenO hist i tx.length = seenO hist (i + 1) 0 := by
  unfold seenO
  rw [h, Option.getD_some, List.take_of_length_le (Nat.le_refl _), List.take_add_one, h]
  simp
theorem seenO_all {hist : List (List OpP)} : seenO hist hist.length 0 = hist.flatten := by simp [seenO]
theorem said_noneL {k : KeyP} {t : Int} : ∀ {l : List OpP} {x : ByteArray}, (∀ o ∈ l, o.key ≠ k) → saidL l k t x = x
  | [], _, _ => rfl
  | o :: l, x, h => by
    show List.foldl _ (if k = o.key ∧ o.fr ≤ t ∧ t < o.to then o.value else x) l = x
    rw [if_neg (fun e => h o (by simp) e.1.symm)]
    exact said_noneL fun o ho => h o (List.mem_cons_of_mem _ ho)
theorem said_seen {hist : List (List OpP)} {k : KeyP} {a : Nat} {t : Int} (h : (saidH hist k a t).size ≠ 0) : ∃ o ∈ hist.flatten, o.key = k := by
  rcases Classical.em (∃ o ∈ hist.flatten, o.key = k) with h1 | h1
  · exact h1
  · exfalso
    apply h
    have : saidH hist k a t = ⟨#[]⟩ := said_noneL fun o ho e => h1 ⟨o, by
      obtain ⟨l, hl, ho⟩ := List.mem_flatten.1 ho
      exact List.mem_flatten.2 ⟨l, List.mem_of_mem_take hl, ho⟩, e⟩
    rw [this]; rfl
/-- What is gathered, all in all. -/
structure GK (hist : List (List OpP)) (a : Nat) (t : Int) (i q : Nat) (M U : List KeyP) : Prop where
  mem : ∀ k, k ∈ M ↔ ∃ o ∈ seenO hist i q, o.key = k
  nod : U.Nodup
  out : ∀ k, k ∈ U ↔ k ∈ M ∧ (saidH hist k a t).size ≠ 0
theorem GK.zero (hist : List (List OpP)) (a : Nat) (t : Int) : GK hist a t 0 0 [] [] :=
  ⟨fun k => ⟨(fun h => by cases h), fun ⟨o, ho, _⟩ => by rw [seenO_zero] at ho; cases ho⟩, List.nodup_nil, fun k => ⟨(fun h => by cases h), (fun h => by cases h.1)⟩⟩
theorem GK.tx {hist : List (List OpP)} {a : Nat} {t : Int} {i : Nat} {M U : List KeyP} {tx : List OpP} (h : GK hist a t i tx.length M U) (htx : hist[i]? = some tx) : GK hist a t (i + 1) 0 M U :=
  ⟨fun k => by rw [h.mem, seenO_tx htx], h.nod, h.out⟩
/-- One that is there already. -/
theorem GK.old {hist : List (List OpP)} {a : Nat} {t : Int} {i q : Nat} {M M' U : List KeyP} {tx : List OpP} {o : OpP} (h : GK hist a t i q M U) (htx : hist[i]? = some tx) (ho : tx[q]? = some o) (hm : o.key ∈ M) (hM : ∀ y, y ∈ M' ↔ y = o.key ∨ y ∈ M) : GK hist a t i (q + 1) M' U := by
  have e : ∀ y, y ∈ M' ↔ y ∈ M := fun y => by rw [hM]; exact ⟨fun h => h.elim (fun e => by rw [e]; exact hm) id, .inr⟩
  refine ⟨fun k => ?_, h.nod, fun k => by rw [h.out, e]⟩
  rw [e, h.mem, seenO_op htx ho]
  constructor
  · rintro ⟨o', ho', e'⟩; exact ⟨o', by simp [ho'], e'⟩
  · rintro ⟨o', ho', e'⟩
    rcases List.mem_append.1 ho' with h1 | h1
    · exact ⟨o', h1, e'⟩
    · simp at h1; subst h1; subst e'; exact (h.mem _).1 hm
theorem GK.new {hist : List (List OpP)} {a : Nat} {t : Int} {i q : Nat} {M M' U : List KeyP} {tx : List OpP} {o : OpP} (h : GK hist a t i q M U) (htx : hist[i]? = some tx) (ho : tx[q]? = some o) (hM : ∀ y, y ∈ M' ↔ y = o.key ∨ y ∈ M) (k : KeyP) : k ∈ M' ↔ ∃ o' ∈ seenO hist i (q + 1), o'.key = k := by
  rw [hM, h.mem, seenO_op htx ho]
  constructor
  · rintro (e | ⟨o', ho', e⟩)
    · exact ⟨o, by simp, e.symm⟩
    · exact ⟨o', by simp [ho'], e⟩
  · rintro ⟨o', ho', e'⟩
    rcases List.mem_append.1 ho' with h1 | h1
    · exact .inr ⟨o', h1, e'⟩
    · simp at h1; subst h1; exact .inl e'.symm
theorem GK.no {hist : List (List OpP)} {a : Nat} {t : Int} {i q : Nat} {M M' U : List KeyP} {tx : List OpP} {o : OpP} (h : GK hist a t i q M U) (htx : hist[i]? = some tx) (ho : tx[q]? = some o) (h0 : (saidH hist o.key a t).size = 0) (hM : ∀ y, y ∈ M' ↔ y = o.key ∨ y ∈ M) : GK hist a t i (q + 1) M' U := by
  refine ⟨h.new htx ho hM, h.nod, fun k => ?_⟩
  rw [h.out, hM]
  constructor
  · rintro ⟨h1, h2⟩; exact ⟨.inr h1, h2⟩
  · rintro ⟨rfl | h1, h2⟩
    · exact absurd h0 h2
    · exact ⟨h1, h2⟩
theorem GK.yes {hist : List (List OpP)} {a : Nat} {t : Int} {i q : Nat} {M M' U : List KeyP} {tx : List OpP} {o : OpP} (h : GK hist a t i q M U) (htx : hist[i]? = some tx) (ho : tx[q]? = some o) (hm : o.key ∉ M) (h0 : (saidH hist o.key a t).size ≠ 0) (hM : ∀ y, y ∈ M' ↔ y = o.key ∨ y ∈ M) : GK hist a t i (q + 1) M' (U ++ [o.key]) := by
  refine ⟨h.new htx ho hM, List.nodup_append.2 ⟨h.nod, by simp, fun x hx y hy e => ?_⟩, fun k => ?_⟩
  · simp at hy; subst hy; subst e; exact hm ((h.out _).1 hx).1
  · rw [List.mem_append, h.out, hM]
    constructor
    · rintro (⟨h1, h2⟩ | e)
      · exact ⟨.inr h1, h2⟩
      · simp at e; subst e; exact ⟨.inl rfl, h0⟩
    · rintro ⟨rfl | h1, h2⟩
      · exact .inr (by simp)
      · exact .inl ⟨h1, h2⟩
theorem GK.all {hist : List (List OpP)} {a : Nat} {t : Int} {M U : List KeyP} (h : GK hist a t hist.length 0 M U) (k : KeyP) : k ∈ U ↔ (saidH hist k a t).size ≠ 0 := by
  rw [h.out, h.mem, seenO_all]
  exact ⟨fun h => h.2, fun h => ⟨said_seen h, h⟩⟩
end Go.Proofs.YtflhpmgjehjjkaaGreatDoor

namespace Go.Proofs.YtflhpmgjehjjkaaGreatDoor
open Go.RowKit Go.Deep Go.Shelf Go.Sort Go.Maps

def keyRE (hist : List (List OpP)) (known a t : Int) : Int := if askR hist.length known a ≠ 0 then askR hist.length known a else if timeB t then 0 else 1
theorem keyRE_0 {hist : List (List OpP)} {known a t : Int} (h : keyRE hist known a t = 0) : askR hist.length known a = 0 ∧ timeB t = true := by
  unfold keyRE at h
  rcases Decidable.em (askR hist.length known a = 0) with e | e
  · rw [if_neg (by rw [e]; decide)] at h
    cases hb : timeB t with
    | true => exact ⟨e, rfl⟩
    | false => rw [hb] at h; exact absurd h (by decide)
  · rw [if_pos e] at h; exact absurd h e
def KeysR (hist : List (List OpP)) (a : Nat) (t : Int) (w : World) (e : Ending) (w' : World) : Prop :=
  ∃ (v : Value) (S : List KeyP), e = .returned (.tuple #[v, .int .i64 0]) ∧ KeysIs hist a t S ∧ w'.ownsRow w.heap.size 44 4 v S.length (flatKeys S) ∧ Below w.heap.size w w'
/-- The loops' state. -/
structure KQ (hist : List (List OpP)) (a : Nat) (t : Int) (w : World) (mb i q c : Nat) (M U : List KeyP) (v : Value) (X : World) : Prop where
  kad : KadIs X mb c M
  gk : GK hist a t i q M U
  box : X.heap[mb + 1]? = some (.cells #[v] 41 (0, 0))
  row : X.ownsRow (mb + 2) 44 4 v U.length (flatKeys U)
  cnt : c ≤ i * 8 + q
  len : U.length ≤ i * 8 + q
  hm : w.heap.size ≤ mb
  be : Below w.heap.size w X
theorem KQ.below {hist : List (List OpP)} {a : Nat} {t : Int} {w : World} {mb i q c : Nat} {M U : List KeyP} {v : Value} {X Y : World} (h : KQ hist a t w mb i q c M U v X) (b : Below X.heap.size X Y) : KQ hist a t w mb i q c M U v Y :=
  ⟨h.kad.frame (F := fun _ => False) (Fr.new b) (fun e => e), h.gk, (b.block _ (lt_of_block h.box)).trans h.box, ownsRow_below h.row b, h.cnt, h.len, h.hm, h.be.trans (b.mono h.be.size)⟩
/-- Behind the map's store. -/
theorem KQ.put {hist : List (List OpP)} {a : Nat} {t : Int} {w : World} {mb i q c : Nat} {M U : List KeyP} {v : Value} {X Y : World} (h : KQ hist a t w mb i q c M U v X) (hg : X.grownBy Y (some mb)) {M' : List KeyP} (hk : KadIs Y mb (c + 1) M') (g' : GK hist a t i (q + 1) M' U) : KQ hist a t w mb i (q + 1) (c + 1) M' U v Y := by
  have hf : Fr (· = mb) X Y := Fr.ofGrown hg
  exact ⟨hk, g', hf.keeps h.box (by omega), ownsRow_frame h.row hf (fun g hg e => by omega), by have := h.cnt; omega, by have := h.len; omega, h.hm, h.be.trans (hf.below (fun k _ e => by have := h.hm; omega) h.be.size)⟩
theorem KQ.tx {hist : List (List OpP)} {a : Nat} {t : Int} {w : World} {mb i c : Nat} {M U : List KeyP} {v : Value} {X : World} {tx : List OpP} (h : KQ hist a t w mb i tx.length c M U v X) (htx : hist[i]? = some tx) (h8 : tx.length ≤ 8) : KQ hist a t w mb (i + 1) 0 c M U v X :=
  ⟨h.kad, h.gk.tx htx, h.box, h.row, by have := h.cnt; omega, by have := h.len; omega, h.hm, h.be⟩
theorem ownsRow_shape {w : World} {base : Nat} {e : TypeId} {size : Nat} {v : Value} {n : Nat} {xs : List Value} (h : w.ownsRow base e size v n xs) : ∃ a m c, v = .slice a m c := by
  rcases h.2 with ⟨rfl, _⟩ | ⟨g, cap, cur, rfl, _⟩
  · exact ⟨_, _, _, rfl⟩
  · exact ⟨_, _, _, rfl⟩
/-- Behind an append and its store. -/
structure KA (w : World) (mb c : Nat) (M U : List KeyP) (v : Value) (X : World) : Prop where
  kad : KadIs X mb c M
  box : X.heap[mb + 1]? = some (.cells #[v] 41 (0, 0))
  row : X.ownsRow (mb + 2) 44 4 v U.length (flatKeys U)
  be : Below w.heap.size w X
theorem KQ.app {hist : List (List OpP)} {a : Nat} {t : Int} {w : World} {mb i q c : Nat} {M U : List KeyP} {v v' : Value} {X W6 : World} {U' : List KeyP} (h : KQ hist a t w mb i q c M U v X) (hB : Below (mb + 2) X W6) (hrow : W6.ownsRow (mb + 2) 44 4 v' U'.length (flatKeys U')) : KA w mb c M U' v' (W6.setCell ⟨mb + 1, 0, none⟩ v') := by
  have hf : Fr (· = mb + 1) W6 (W6.setCell ⟨mb + 1, 0, none⟩ v') := Fr.setCell (F := (· = mb + 1)) (Fr.refl _ W6) (p := ⟨mb + 1, 0, none⟩) (fun _ => rfl) v'
  have hbox := (hB.block (mb + 1) (by omega)).trans h.box
  refine ⟨(h.kad.frame (Fr.ofBelow hB) (by omega)).frame hf (by omega), ?_, ownsRow_frame hrow hf (fun g hg e => by omega), (h.be.trans (hB.mono (by have := h.hm; omega))).trans (hf.below (fun k _ e => by have := h.hm; omega) (by have := h.be.size; have := hB.size; omega))⟩
  have := block_set hbox 0 v'
  simpa using this
theorem KQ.yes {hist : List (List OpP)} {a : Nat} {t : Int} {w : World} {mb i q c : Nat} {M U : List KeyP} {v v' : Value} {X W7 Y : World} {M' : List KeyP} {k : KeyP} (h : KQ hist a t w mb i q c M U v X) (hA : KA w mb c M (U ++ [k]) v' W7) (hg : W7.grownBy Y (some mb)) (hk : KadIs Y mb (c + 1) M') (g' : GK hist a t i (q + 1) M' (U ++ [k])) : KQ hist a t w mb i (q + 1) (c + 1) M' (U ++ [k]) v' Y := by
  have hf : Fr (· = mb) W7 Y := Fr.ofGrown hg
  exact ⟨hk, g', hf.keeps hA.box (by omega), ownsRow_frame hA.row hf (fun g hg e => by omega), by have := h.cnt; omega, by have := h.len; rw [List.length_append]; simp; omega, h.hm, hA.be.trans (hf.below (fun k _ e => by have := h.hm; omega) hA.be.size)⟩
section
variable {F : Nat → Prop} {rb : Nat} {hist : List (List OpP)} {known : Int}
set_option maxRecDepth 100000 in
theorem rpkeys_bad (a t : Int) (w : World) (h : RP F w rb hist known) (hb : keyRE hist known a t ≠ 0) :
    Calls Tryz.prog 62 #[.pointer (some ⟨rb, 0, none⟩), .int .i64 a, .int .i64 t] w fun e w' => e = .returned (.tuple #[.slice none 0 0, .int .i64 (keyRE hist known a t)]) ∧ w = w' := by
  have hA := rpask_any a w h
  have hT := rtimed_any t w
  by_cases ha : askR hist.length known a = 0
  · have ht : timeB t = false := by
      cases hk : timeB t with
      | false => rfl
      | true => exact absurd (by unfold keyRE; rw [if_neg (by rw [ha]; decide), if_pos hk]) hb
    have e : keyRE hist known a t = 1 := by unfold keyRE; rw [if_neg (by rw [ha]; decide), ht]; rfl
    rw [e]
    rw [ha] at hA
    rw [ht] at hT
    have HA := Lib.hid hA
    have HT := Lib.hid hT
    clear hA hT ha ht e hb h
    go_enter Tryz.func62, Tryz.ntmps62
    go_wp2_with fail
    refine HA.out.mono ?_
    rintro e w1 ⟨rfl, rfl⟩
    go_wp2_with fail
    refine HT.out.mono ?_
    rintro e w1 ⟨rfl, rfl⟩
    go_wp2_with fail
    go_ret2
    exact ⟨rfl, rfl⟩
  · have e : keyRE hist known a t = askR hist.length known a := by unfold keyRE; rw [if_pos ha]
    rw [e]
    obtain ⟨n, hn⟩ : ∃ n, n = askR hist.length known a := ⟨_, rfl⟩
    rw [← hn] at hA ha ⊢
    have HA := Lib.hid hA
    have n1 : (n == 0) = false := by simpa using ha
    have n2 : (n != 0) = true := by simpa using ha
    clear hA hT ha e hb h hn
    go_enter Tryz.func62, Tryz.ntmps62
    go_wp2_with fail
    refine HA.out.mono ?_
    rintro e w1 ⟨rfl, rfl⟩
    go_wp2_with fail
    go_ret2
    exact ⟨rfl, rfl⟩
set_option maxRecDepth 100000 in
set_option maxHeartbeats 8000000 in
theorem rpkeys_ok (a : Nat) (t : Int) (w : World) (h : RP F w rb hist known) (hb : keyRE hist known a t = 0) :
    Calls Tryz.prog 62 #[.pointer (some ⟨rb, 0, none⟩), .int .i64 (a : Nat), .int .i64 t] w (KeysR hist a t w) := by
  have hmm := @run_makeMap Tryz.prog
  obtain ⟨e1, e2⟩ := keyRE_0 hb
  have hA := rpask_any a w h
  rw [e1] at hA
  have hT := rtimed_any t w
  rw [e2] at hT
  obtain ⟨q1, q2, q3⟩ := askR_0 e1
  have hah : a ≤ hist.length := by omega
  obtain ⟨ao, c, ⟨c0, c1⟩, ⟨hc1, hc2⟩, hget⟩ := h.get
  have hl := h.lt
  have hlen := h.len
  unfold maxLen at hc2
  have HG := Lib.hid hget
  have HOK := Lib.hid h.ok
  have HP := Lib.hid h
  obtain ⟨mb, hmb⟩ : ∃ mb, mb = w.heap.size := ⟨_, rfl⟩
  obtain ⟨W2, hW2⟩ : ∃ W2, W2 = (w.alloc (.map #[] 0)).alloc (.cells #[.slice none 0 0] 41) := ⟨_, rfl⟩
  have hB2 : Below w.heap.size w W2 := by rw [hW2]; exact ((Below.refl _ _).alloc (Nat.le_refl _) _).alloc (by simp) _
  have ho : (w.alloc (.map #[] 0)).ownsMap Tryz.prog 44 boolR mb 0 (.map []) := by rw [hmb]; exact World.ownsMap_made _ _ _ _
  have hQ : KQ hist a t w mb 0 0 0 [] [] (.slice none 0 0) W2 := by
    refine ⟨⟨List.nodup_nil, (fun _ h => by cases h), _, owns_frame (F := fun _ => False) ho (by rw [hW2]; exact (Fr.refl _ _).alloc _) (fun e => e), mapOf_nil⟩, GK.zero _ _ _, ?_, World.ownsRow_nil _ _ _ _, Nat.zero_le _, Nat.zero_le _, by omega, hB2⟩
    rw [hW2, hmb]
    have := block_alloc_new (w.alloc (.map #[] 0)) (.cells #[.slice none 0 0] 41)
    simpa using this
  have HA := Lib.hid hA
  have HT := Lib.hid hT
  have HW2 := Lib.hid hW2
  have HMB := Lib.hid hmb
  have HQ := Lib.hid hQ
  clear h hA hT hget hb e1 e2 q1 q2 q3 c1 hW2 hmb hB2 ho hQ
  go_enter Tryz.func62, Tryz.ntmps62
  go_wp2_with fail
  refine HA.out.mono ?_
  rintro e w1 ⟨rfl, rfl⟩
  go_wp2_with fail
  refine HT.out.mono ?_
  rintro e w1 ⟨rfl, rfl⟩
  go_wp2_with fail
  rw [← HW2.out, ← HMB.out]
  go_loopw [30] (fun vi X => ∃ (i cc : Nat) (M U : List KeyP) (v : Value), i ≤ hist.length ∧ vi = .int .i64 i ∧ KQ hist a t w1 mb i 0 cc M U v X) (fun vi _ => hist.length - (intOf vi).toNat)
  case atStart => exact ⟨0, 0, [], [], _, Nat.zero_le _, rfl, HQ.out⟩
  case round =>
    obtain ⟨i, cc, M, U, v, hi, rfl, hq⟩ := hrel
    have HQ1 := Lib.hid hq
    clear hq
    by_cases hlt : i < hist.length
    · obtain ⟨tx, htx⟩ : ∃ tx, hist[i]? = some tx := ⟨_, List.getElem?_eq_getElem hlt⟩
      obtain ⟨b0, b, cap, rfl, hb0, hc, hbb, ho⟩ := HG.out i tx htx
      have hokt := okL_iff.1 (HOK.out tx (List.mem_of_getElem? htx))
      have ht8 : tx.length ≤ 8 := hokt.1.2
      have c2 := below_cell HQ1.out.be hb0 hc
      have hb02 : b0 < wr.heap.size := Nat.lt_of_lt_of_le hb0 HQ1.out.be.size
      have i0 : (0 : Int) ≤ (i : Int) := by omega
      have i1 : (i : Int) < (hist.length : Int) := by omega
      have HO := Lib.hid ho
      have HTX := Lib.hid htx
      have HOKT := Lib.hid hokt
      clear hc ho htx hokt
      go_wp2_with fail
      go_loopw [36] (fun vi X => ∃ (q cc : Nat) (M U : List KeyP) (v : Value), q ≤ tx.length ∧ vi = .int .i64 q ∧ KQ hist a t w1 mb i q cc M U v X) (fun vi _ => tx.length - (intOf vi).toNat)
      case atStart => exact ⟨0, cc, M, U, v, Nat.zero_le _, rfl, HQ1.out⟩
      case round =>
        clear HQ1 c2
        obtain ⟨q, cc, M, U, v, hq, rfl, hQ⟩ := hrel
        have HQ2 := Lib.hid hQ
        clear hQ
        by_cases hqt : q < tx.length
        · obtain ⟨bq, f, n, o1, sx, m, x1, x2, u, g1, e1, hbl, d0, d1, d2, d3, d4, d5, d6⟩ := opsAt_get (HO.out.below HQ2.out.be) hqt
          cases e1
          simp only [Nat.zero_add] at d0 d1 d2 d3 d4 d5 d6
          have hkb : keyB ⟨n, o1, sx, m⟩ = true := op_key (List.all_eq_true.1 HOKT.out.2 _ (List.mem_of_getElem? g1.out))
          obtain ⟨W4, hW4⟩ : ∃ W4, W4 = wr.alloc (.cells #[.int .i64 n, .int .i64 o1, .string sx, .int .i64 m, .int .i64 x1, .int .i64 x2, .string u] 70) := ⟨_, rfl⟩
          have hB4 : Below wr.heap.size wr W4 := by rw [hW4]; exact (Below.refl _ _).alloc (Nat.le_refl _) _
          have hQ4 := HQ2.out.below hB4
          have hpb : W4.heap[wr.heap.size]? = some (.cells #[.int .i64 n, .int .i64 o1, .string sx, .int .i64 m, .int .i64 x1, .int .i64 x2, .string u] 70 (0, 0)) := by rw [hW4]; exact block_alloc_new _ _
          obtain ⟨p, hp⟩ : ∃ p, p = wr.heap.size := ⟨_, rfl⟩
          rw [← hp] at hpb
          have k0 : W4.cell? ⟨p, 0, none⟩ = some (.int .i64 n) := block_cell hpb 0
          have k1 : W4.cell? ⟨p, 1, none⟩ = some (.int .i64 o1) := block_cell hpb 1
          have k2 : W4.cell? ⟨p, 2, none⟩ = some (.string sx) := block_cell hpb 2
          have k3 : W4.cell? ⟨p, 3, none⟩ = some (.int .i64 m) := block_cell hpb 3
          have hpl : p < W4.heap.size := lt_of_block hpb
          have hlook := kad_look hQ4.kad hkb
          have qq0 : (0 : Int) ≤ (q : Int) := by omega
          have qq1 : (q : Int) < (tx.length : Int) := by omega
          have hmbl : mb + 1 < p := by have := lt_of_block HQ2.out.box; omega
          have HRL := Lib.hid (fun (r : Nat) (hr : v.ownBlock = some r) => show r < p from by rw [hp]; exact (HQ2.out.row.lt r hr).2)
          have HKB := Lib.hid hkb
          have HW4 := Lib.hid hW4
          have HQ4 := Lib.hid hQ4
          have HPB := Lib.hid hpb
          have HPE := Lib.hid hp
          have hcc : cc ≤ 1208 := by have := HQ2.out.cnt; omega
          have hUl : U.length ≤ 1208 := by have := HQ2.out.len; omega
          clear hkb hW4 hB4 hQ4 hpb hp HQ2
          by_cases hm : (⟨n, o1, sx, m⟩ : KeyP) ∈ M
          · rw [decide_eq_true hm] at hlook
            obtain ⟨D, hown, hD⟩ := HQ4.out.kad.own
            obtain ⟨M', n', o', hD', hm'⟩ := kad_put HQ4.out.kad.nod HQ4.out.kad.ok hD ⟨n, o1, sx, m⟩ HKB.out
            have HD' := Lib.hid hD'
            have HN' := Lib.hid n'
            have HO' := Lib.hid o'
            have HMM := Lib.hid hm'
            have HOW := Lib.hid hown
            have HM := Lib.hid hm
            clear hD hD' n' o' hm' hown hm
            go_upto_region 14 with fail
            rw [← HW4.out, ← HPE.out]
            go_wp2_with (at_mapUpdate; refine wpList_mapUpdate_own _ rfl _ _ _ 207 rfl 44 4 keyLaw Tryz.underlying207 boolR mb cc D rfl HOW.out (by unfold maxLen; omega) _ _ _ rfl rfl (keyOf_key (k := ⟨n, o1, sx, m⟩) HKB.out) boolD [] rfl ?_; intro w9 hown9 hgrow9)
            exact ⟨⟨q + 1, cc + 1, M', U, v, by omega, by go_num, HQ4.out.put hgrow9 ⟨HN'.out, HO'.out, _, hown9, HD'.out⟩ (HQ4.out.gk.old (o := ⟨⟨n, o1, sx, m⟩, x1, x2, u⟩) HTX.out g1.out HM.out HMM.out)⟩, by simp [intOf]; omega⟩
          · rw [decide_eq_false hm] at hlook
            have hcs := rpsaid_any ⟨n, o1, sx, m⟩ a t W4 (HP.out.below HQ4.out.be) hah
            obtain ⟨x, hx⟩ : ∃ x, x = saidH hist ⟨n, o1, sx, m⟩ a t := ⟨_, rfl⟩
            rw [← hx] at hcs
            have HX := Lib.hid hx
            have HM := Lib.hid hm
            clear hx hm
            by_cases h0 : x.size = 0
            · have hv1 := empty_true h0
              have hv2 : (!x.toList.isEmpty) = false := by rw [hv1]; rfl
              have HZ := Lib.hid h0
              clear h0
              go_upto_region 14 with fail
              rw [← HW4.out, ← HPE.out]
              go_wp2_with (first
                | (go_at_call 63; (with_reducible refine hcs.mono ?_); rintro e w5 ⟨rfl, b5⟩; have HQ5 := Lib.hid (HQ4.out.below b5); have j0 := below_cell b5 hpl k0; have j1 := below_cell b5 hpl k1; have j2 := below_cell b5 hpl k2; have j3 := below_cell b5 hpl k3; have hpl5 := Nat.lt_of_lt_of_le hpl b5.size; obtain ⟨D, hown, hD⟩ := HQ5.out.kad.own; obtain ⟨M', n', o', hD', hm'⟩ := kad_put HQ5.out.kad.nod HQ5.out.kad.ok hD ⟨n, o1, sx, m⟩ HKB.out; have HD' := Lib.hid hD'; have HN' := Lib.hid n'; have HO' := Lib.hid o'; have HMM := Lib.hid hm'; have HOW := Lib.hid hown; clear b5 hD hD' n' o' hm' hown)
                | (at_mapUpdate; refine wpList_mapUpdate_own _ rfl _ _ _ 207 rfl 44 4 keyLaw Tryz.underlying207 boolR mb cc D rfl HOW.out (by unfold maxLen; omega) _ _ _ rfl rfl (keyOf_key (k := ⟨n, o1, sx, m⟩) HKB.out) boolD [] rfl ?_; intro w9 hown9 hgrow9))
              exact ⟨⟨q + 1, cc + 1, M', U, v, by omega, by go_num, HQ5.out.put hgrow9 ⟨HN'.out, HO'.out, _, hown9, HD'.out⟩ (HQ5.out.gk.no (o := ⟨⟨n, o1, sx, m⟩, x1, x2, u⟩) HTX.out g1.out (by show (saidH hist ⟨n, o1, sx, m⟩ a t).size = 0; rw [← HX.out]; exact HZ.out) HMM.out)⟩, by simp [intOf]; omega⟩
            · have hv1 := empty_false h0
              have hv2 : (!x.toList.isEmpty) = true := by rw [hv1]; rfl
              have HZ := Lib.hid h0
              clear h0
              go_upto_region 14 with fail
              rw [← HW4.out, ← HPE.out]
              go_wp2_with (first
                | (go_at_call 63; (with_reducible refine hcs.mono ?_); rintro e w5 ⟨rfl, b5⟩; have HQ5 := Lib.hid (HQ4.out.below b5); have j0 := below_cell b5 hpl k0; have j1 := below_cell b5 hpl k1; have j2 := below_cell b5 hpl k2; have j3 := below_cell b5 hpl k3; have hpl5 := Nat.lt_of_lt_of_le hpl b5.size; have HROW := Lib.hid HQ5.out.row; have bx := block_cell HQ5.out.box 0; have bl := lt_of_block HQ5.out.box; have HPB5 := Lib.hid ((b5.block _ hpl).trans HPB.out); have HPL5 := Lib.hid hpl5; clear b5)
                | (at_builtin; refine appKey rfl _ _ rfl (mb + 2) _ U rfl (HROW.out.alloc _) w5.heap.size ⟨n, o1, sx, m⟩ rfl (by simp) (by simp) (by simp) (by simp) (by omega) (by simp; omega) w5 ((Below.refl _ _).alloc (by omega) _) ?_; intro v' w6 hown6 hB6 hs6 hg6; obtain ⟨a6, n6, c6, hv6⟩ := ownsRow_shape hown6; subst hv6; have b6 := (hB6.block (mb + 1) (by omega)).trans HQ5.out.box; have bc := block_cell b6 0; have bf := block_free b6 0; have bl6 := lt_of_block b6; have P6 := (hg6.block p (by simp; omega) (fun e => by have := HRL.out p e.symm; omega)).trans (block_alloc HPB5.out _); have HKA := Lib.hid (HQ5.out.app hB6 hown6); have P7 := block_set_other P6 (p := ⟨mb + 1, 0, none⟩) (by show p ≠ mb + 1; omega) (.slice a6 n6 c6); obtain ⟨W7, hW7⟩ : ∃ W7, W7 = w6.setCell ⟨mb + 1, 0, none⟩ (.slice a6 n6 c6) := ⟨_, rfl⟩; rw [← hW7] at HKA P7; have HW7 := Lib.hid hW7; have z0 := block_cell P7 0; have z1 := block_cell P7 1; have z2 := block_cell P7 2; have z3 := block_cell P7 3; have zl := lt_of_block P7; obtain ⟨D, hown, hD⟩ := HKA.out.kad.own; obtain ⟨M', n', o', hD', hm'⟩ := kad_put HKA.out.kad.nod HKA.out.kad.ok hD ⟨n, o1, sx, m⟩ HKB.out; have HD' := Lib.hid hD'; have HN' := Lib.hid n'; have HO' := Lib.hid o'; have HMM := Lib.hid hm'; have HOW := Lib.hid hown; clear hown6 hB6 hs6 hg6 b6 hW7 P6 P7 hD hD' n' o' hm' hown)
                | (rw [← HW7.out])
                | (at_mapUpdate; refine wpList_mapUpdate_own _ rfl _ _ _ 207 rfl 44 4 keyLaw Tryz.underlying207 boolR mb cc D rfl HOW.out (by unfold maxLen; omega) _ _ _ rfl rfl (keyOf_key (k := ⟨n, o1, sx, m⟩) HKB.out) boolD [] rfl ?_; intro w9 hown9 hgrow9))
              exact ⟨⟨q + 1, cc + 1, M', U ++ [⟨n, o1, sx, m⟩], .slice a6 n6 c6, by omega, by go_num, HQ5.out.yes HKA.out hgrow9 ⟨HN'.out, HO'.out, _, hown9, HD'.out⟩ (HQ5.out.gk.yes (o := ⟨⟨n, o1, sx, m⟩, x1, x2, u⟩) HTX.out g1.out HM.out (by show (saidH hist ⟨n, o1, sx, m⟩ a t).size ≠ 0; rw [← HX.out]; exact HZ.out) HMM.out)⟩, by simp [intOf]; omega⟩
        · obtain rfl : q = tx.length := by omega
          go_wp2_with fail
          exact ⟨⟨i + 1, cc, M, U, v, by omega, by go_num, HQ2.out.tx HTX.out ht8⟩, by simp [intOf]; omega⟩
    · obtain rfl : i = hist.length := by omega
      have bx := block_cell HQ1.out.box 0
      have bl := lt_of_block HQ1.out.box
      have hU : U.length < 4611686018427387904 := by have := HQ1.out.len; omega
      have hcs := rsortKeys_own (mb + 1) (mb + 2) v U wr HQ1.out.row bx (by omega) (by omega) HQ1.out.gk.nod hU
      go_wp2_with (go_at_call 116; (with_reducible refine hcs.mono ?_); rintro e w5 ⟨rfl, ⟨S, hS1, hS2, hS3, hS4⟩, b5⟩; have q5 := (b5.block (mb + 1) (by omega)).trans HQ1.out.box; have bx5 := block_cell q5 0; have bl5 := lt_of_block q5; have HS2 := Lib.hid hS2; have HS3 := Lib.hid hS3; have HS4 := Lib.hid hS4; have B5 := Lib.hid b5; clear b5 q5 hS1 hS2 hS3 hS4)
      go_ret2
      have hmm := HQ1.out.hm
      exact ⟨v, S, rfl, ⟨HS2.out, fun k => (HS3.out k).trans (HQ1.out.gk.all k)⟩, ownsRow_mono HS4.out (by omega), HQ1.out.be.trans (B5.out.mono (by omega))⟩
end
end Go.Proofs.YtflhpmgjehjjkaaGreatDoor

namespace Go.Proofs.YtflhpmgjehjjkaaGreatDoor
open Go.RowKit Go.Deep Go.Shelf Go.Sort Go.Maps

section
variable {F : Nat → Prop} {rb : Nat} {hist : List (List OpP)} {known : Int}
end
end Go.Proofs.YtflhpmgjehjjkaaGreatDoor

namespace Go.Proofs.YtflhpmgjehjjkaaGreatDoor
open Go.RowKit Go.Deep Go.Shelf Go.Sort Go.Maps

theorem ownsRow_len {w : World} {base : Nat} {e : TypeId} {size : Nat} {v : Value} {n : Nat} {xs : List Value} (h : w.ownsRow base e size v n xs) : n ≤ maxLen := by
  rcases h.2 with ⟨_, h0⟩ | ⟨g, cap, cur, _, _, _, h1, h2, _⟩
  · rw [h0]; exact Nat.zero_le _
  · exact Nat.le_trans h1 h2
section
variable {F : Nat → Prop} {rb : Nat} {hist : List (List OpP)} {known : Int} {w : World} {pb po : Nat} {R : Rest} {s : Pst} {g : Gh}
theorem askE_R (h : PastIs w pb po R hist s g) (hk : s.gone = known) (a : Int) : askE s a = askR hist.length known a := by unfold askE askR; rw [h.now, hk]
theorem errN_of {n : Int} (h : n ≠ 0) : errN n = errV n := by unfold errN; rw [if_neg h]

def PSpec (hist : List (List OpP)) (known : Int) (k : KeyP) (a : Int) (L : List Pc) : Prop := (pieRE hist known k a = 0 → PiecesOf hist k a.toNat L) ∧ (pieRE hist known k a ≠ 0 → L = [])
theorem PSpec.one {k : KeyP} {a : Int} {L M : List Pc} (h : PSpec hist known k a L) (h' : PSpec hist known k a M) : L = M := by
  rcases Decidable.em (pieRE hist known k a = 0) with e | e
  · exact (h.1 e).one (h'.1 e) fun _ => rfl
  · rw [h.2 e, h'.2 e]

def ESpec (hist : List (List OpP)) (known : Int) (k : KeyP) (a b f t : Int) (L : List ByteArray) : Prop := (everRE hist known k a b f t = 0 → EversIs hist k a.toNat b.toNat f t L) ∧ (everRE hist known k a b f t ≠ 0 → L = [])
theorem ESpec.one {k : KeyP} {a b f t : Int} {L M : List ByteArray} (h : ESpec hist known k a b f t L) (h' : ESpec hist known k a b f t M) : L = M := by
  rcases Decidable.em (everRE hist known k a b f t = 0) with e | e
  · exact (h.1 e).one (h'.1 e) fun _ => Iff.rfl
  · rw [h.2 e, h'.2 e]

def KSpec (hist : List (List OpP)) (known : Int) (a t : Int) (L : List KeyP) : Prop := (keyRE hist known a t = 0 → KeysIs hist a.toNat t L) ∧ (keyRE hist known a t ≠ 0 → L = [])
theorem KSpec.one {a t : Int} {L M : List KeyP} (h : KSpec hist known a t L) (h' : KSpec hist known a t M) : L = M := by
  rcases Decidable.em (keyRE hist known a t = 0) with e | e
  · exact (h.1 e).one (h'.1 e) fun _ => rfl
  · rw [h.2 e, h'.2 e]
theorem keysIn_nil (w : World) : KeysIn w none [] := fun j p h => by cases h
theorem pkeys_same (h : PastIs w pb po R hist s g) (hok : ∀ l ∈ hist, okL l = true) (hk : s.gone = known) (a t : Int) :
    Calls Tryz.prog 50 #[.pointer (some ⟨pb, po, none⟩), .int .i64 a, .int .i64 t] w fun e w' => ∃ (ao : Option Addr) (cap : Nat) (L : List KeyP), e = .returned (.tuple #[.slice ao L.length cap, errN (keyRE hist known a t)]) ∧ KSpec hist known a t L ∧ KeysIn w' ao L ∧ Below w.heap.size w w' := by
  have ha := askE_R h hk a
  have hE : keyE s a t = keyRE hist known a t := by unfold keyE keyRE; rw [ha]
  rcases Decidable.em (keyRE hist known a t = 0) with e | e
  · obtain ⟨e1, e2⟩ := keyRE_0 e
    obtain ⟨q1, q2, q3⟩ := askR_0 e1
    obtain ⟨n, rfl⟩ : ∃ n : Nat, a = n := ⟨a.toNat, by omega⟩
    refine (keys_is n t pb po R hist s g w h (fun l hl => (okL_iff.1 (hok l hl)).2) e2 (by rw [hk]; exact q3) (by omega)).mono ?_
    rintro e1 w' ⟨v, L, rfl, hp, _, hl, hown, hb⟩
    obtain ⟨ao, cap, rfl, hat⟩ := ownsRow_keysIn hown
    exact ⟨ao, cap, L, by rw [e]; rfl, ⟨fun _ => hp, fun h => absurd e h⟩, hat, hb⟩
  · refine (pkeys_bad a t pb po R s g w h.at' (by rw [hE]; exact e)).mono ?_
    rintro e1 w' ⟨rfl, rfl⟩
    exact ⟨none, 0, [], by rw [hE, errN_of e]; rfl, ⟨fun h => absurd h e, fun _ => rfl⟩, keysIn_nil _, Below.refl _ _⟩
end
end Go.Proofs.YtflhpmgjehjjkaaGreatDoor
