/- A past's Commit, where it does not say. -/
import Derived.Test.YtacedfcckkpciaaGreatDoorRpFL
import Derived.Test.YtacedfcckkpciaaGreatDoorPwML
import Derived.Test.YtacedfcckkpciaaGreatDoorErrCL
import Derived.Test.YtacedfcckkpciaaGreatDoorRpDL
namespace Go.Proofs.YtacedfcckkpciaaGreatDoor
open Go.RowKit Go.Deep Go.Shelf Go.Sort Go.Maps

section
variable {F : Nat → Prop} {rb : Nat} {hist : List (List OpP)} {known : Int}
/-- What Commit answers, as an error's number and place. -/
def comR (N : Nat) (l : List OpP) : Int × Int := if okL l then (if N < 150 then (0, -1) else (12, -1)) else (writeR l).2
set_option maxRecDepth 100000 in
set_option maxHeartbeats 4000000 in
theorem rpcommit_bad (ao : Option Addr) (c : Nat) (l : List OpP) (w : World) (h : RP F w rb hist known) (hl : opsAt w ao l) (hok : okL l = false) (hg : PowTab w) (hs : ∀ o ∈ l, o.key.word.size ≤ 100000 ∧ o.value.size ≤ 100000) :
    Calls Tryz.prog 23 #[.pointer (some ⟨rb, 0, none⟩), .slice ao l.length c] w fun e w' => e = .returned (.agg #[.int .i64 (writeR l).2.1, .int .i64 (writeR l).2.2]) ∧ Below w.heap.size w w' := by
  have hne := okL_not hok
  obtain ⟨W1, hW1⟩ : ∃ W1, W1 = w.alloc (.cells #[.int .i64 0, .int .i64 0] 76) := ⟨_, rfl⟩
  have hB1 : Below w.heap.size w W1 := by rw [hW1]; exact (Below.refl _ _).alloc (Nat.le_refl _) _
  have hx1 : W1.heap[w.heap.size]? = some (.cells #[.int .i64 0, .int .i64 0] 76 (0, 0)) := by rw [hW1]; exact heap_alloc_new _ _
  have hw := rwrite_any ao c l W1 (hl.below hB1) hs (hg.below hB1)
  generalize (writeR l).1 = txt at *
  generalize (writeR l).2.1 = n at *
  generalize (writeR l).2.2 = p at *
  have HW := Lib.hid hw
  have HW1 := Lib.hid hW1
  have HB1 := Lib.hid hB1
  have HX1 := Lib.hid hx1
  have hn' : ¬ n = 0 := hne
  clear hw hW1 hB1 hx1 hl h hok hs hg hne
  go_enter Tryz.func23, Tryz.ntmps23
  go_wp2_with fail
  rw [← HW1.out]
  refine HW.out.mono ?_
  rintro e W2 ⟨rfl, b2⟩
  obtain ⟨W3, hW3⟩ : ∃ W3, W3 = W2.alloc (.cells #[.int .i64 n, .int .i64 p] 76) := ⟨_, rfl⟩
  have b23 : Below W2.heap.size W2 W3 := by rw [hW3]; exact (Below.refl _ _).alloc (Nat.le_refl _) _
  have hx3 : W3.heap[W2.heap.size]? = some (.cells #[.int .i64 n, .int .i64 p] 76 (0, 0)) := by rw [hW3]; exact heap_alloc_new _ _
  have b13 : Below W1.heap.size W1 W3 := below_trans b2 b2.size b23
  have b03 : Below w.heap.size w W3 := HB1.out.trans (b13.mono HB1.out.size)
  have hwl : w.heap.size < W1.heap.size := lt_of_block HX1.out
  have hx13 : W3.heap[w.heap.size]? = some (.cells #[.int .i64 0, .int .i64 0] 76 (0, 0)) := (b13.block _ hwl).trans HX1.out
  have q0 : W3.cell? ⟨W2.heap.size, 0, none⟩ = some (.int .i64 n) := by simp [World.cell?, hx3]
  have q1 : W3.cell? ⟨W2.heap.size, 1, none⟩ = some (.int .i64 p) := by simp [World.cell?, hx3]
  have y0 : W3.cell? ⟨w.heap.size, 0, none⟩ = some (.int .i64 0) := by simp [World.cell?, hx13]
  have y1 : W3.cell? ⟨w.heap.size, 1, none⟩ = some (.int .i64 0) := by simp [World.cell?, hx13]
  have z0 : W3.frozen? ⟨w.heap.size, 0, none⟩ = false := by simp [World.frozen?, hx13]
  have z1 : W3.frozen? ⟨w.heap.size, 1, none⟩ = false := by simp [World.frozen?, hx13]
  have hs12 : W1.heap.size ≤ W2.heap.size := b2.size
  have hs23 : W2.heap.size < W3.heap.size := lt_of_block hx3
  have hw3 : w.heap.size < W3.heap.size := by omega
  have hw3' : w.heap.size < (W2.alloc (.cells #[.int .i64 n, .int .i64 p] 76)).heap.size := by rw [← hW3]; exact hw3
  rw [hW3] at q0 q1 y0 y1 z0 z1
  have HW3 := Lib.hid hW3
  have HB03 := Lib.hid b03
  have HX13 := Lib.hid hx13
  clear hW3 b23 hx3 b13 b03 hx13 b2
  go_wp2_with (fail)
  rw [← HW3.out]
  obtain ⟨W12, hW12⟩ : ∃ W12, W12 = (W3.setCell ⟨w.heap.size, 0, none⟩ (.int .i64 n)).setCell ⟨w.heap.size, 1, none⟩ (.int .i64 p) := ⟨_, rfl⟩
  rw [← hW12]
  have hx12 : W12.heap[w.heap.size]? = some (.cells #[.int .i64 n, .int .i64 p] 76 (0, 0)) := by
    rw [hW12]; have := block_set (block_set HX13.out 0 (.int .i64 n)) 1 (.int .i64 p); simpa using this
  have hb12 : Below w.heap.size w W12 := by
    rw [hW12]; exact (HB03.out.setCell (p := ⟨w.heap.size, 0, none⟩) (Nat.le_refl _) _).setCell (p := ⟨w.heap.size, 1, none⟩) (Nat.le_refl _) _
  have k0 : W12.cell? ⟨w.heap.size, 0, none⟩ = some (.int .i64 n) := by simp [World.cell?, hx12]
  have k1 : W12.cell? ⟨w.heap.size, 1, none⟩ = some (.int .i64 p) := by simp [World.cell?, hx12]
  exact bodyPost_ret (v := .agg #[.int .i64 n, .int .i64 p]) (by simp [results, Tryz.results23, go_sem, k0, k1]) rfl ⟨rfl, hb12⟩
set_option maxRecDepth 100000 in
set_option maxHeartbeats 4000000 in
theorem rpcommit_full (ao : Option Addr) (c : Nat) (l : List OpP) (w : World) (h : RP F w rb hist known) (hl : opsAt w ao l) (hok : okL l = true) (hg : PowTab w) (hn : 150 ≤ hist.length) :
    Calls Tryz.prog 23 #[.pointer (some ⟨rb, 0, none⟩), .slice ao l.length c] w fun e w' => e = .returned (.agg #[.int .i64 12, .int .i64 (-1)]) ∧ Below w.heap.size w w' := by
  obtain ⟨⟨hl1, hl8⟩, hall⟩ := okL_iff.1 hok
  obtain ⟨W1, hW1⟩ : ∃ W1, W1 = w.alloc (.cells #[.int .i64 0, .int .i64 0] 76) := ⟨_, rfl⟩
  have hB1 : Below w.heap.size w W1 := by rw [hW1]; exact (Below.refl _ _).alloc (Nat.le_refl _) _
  have hx1 : W1.heap[w.heap.size]? = some (.cells #[.int .i64 0, .int .i64 0] 76 (0, 0)) := by rw [hW1]; exact heap_alloc_new _ _
  have hsz : ∀ o ∈ l, o.key.word.size ≤ 100000 ∧ o.value.size ≤ 100000 := fun o ho => by
    have h1 := List.all_eq_true.1 hall o ho
    have h2 := (wfkey (op_key h1)).2
    rcases op_value h1 with h3 | h3
    · omega
    · unfold wordB at h3; simp at h3; omega
  have hw := rwrite_any ao c l W1 (hl.below hB1) hsz (hg.below hB1)
  rw [okL_write hok] at hw
  have HW := Lib.hid hw
  have HW1 := Lib.hid hW1
  have HB1 := Lib.hid hB1
  have HX1 := Lib.hid hx1
  have HP := Lib.hid h
  clear hw hW1 hB1 hx1 hl h hok hsz hall hg
  go_enter Tryz.func23, Tryz.ntmps23
  go_wp2_with fail
  rw [← HW1.out]
  refine HW.out.mono ?_
  rintro e W2 ⟨rfl, b2⟩
  obtain ⟨W3, hW3⟩ : ∃ W3, W3 = W2.alloc (.cells #[.int .i64 0, .int .i64 (-1)] 76) := ⟨_, rfl⟩
  have b23 : Below W2.heap.size W2 W3 := by rw [hW3]; exact (Below.refl _ _).alloc (Nat.le_refl _) _
  have hx3 : W3.heap[W2.heap.size]? = some (.cells #[.int .i64 0, .int .i64 (-1)] 76 (0, 0)) := by rw [hW3]; exact heap_alloc_new _ _
  have b13 : Below W1.heap.size W1 W3 := below_trans b2 b2.size b23
  have b03 : Below w.heap.size w W3 := HB1.out.trans (b13.mono HB1.out.size)
  have hwl : w.heap.size < W1.heap.size := lt_of_block HX1.out
  have hx13 : W3.heap[w.heap.size]? = some (.cells #[.int .i64 0, .int .i64 0] 76 (0, 0)) := (b13.block _ hwl).trans HX1.out
  have CN := Lib.hid (rpnow_any W3 (HP.out.below b03))
  have q0 : W3.cell? ⟨W2.heap.size, 0, none⟩ = some (.int .i64 0) := by simp [World.cell?, hx3]
  have hs12 : W1.heap.size ≤ W2.heap.size := b2.size
  have hs23 : W2.heap.size < W3.heap.size := lt_of_block hx3
  have hlb : (150 : Int) ≤ (hist.length : Int) := by omega
  have HW3 := Lib.hid hW3
  have HB03 := Lib.hid b03
  have HX13 := Lib.hid hx13
  clear hW3 b23 hx3 b13 b03 hx13 b2
  go_wp2_with fail
  rw [← HW3.out]
  go_wp2_with fail
  refine CN.out.mono ?_
  rintro e W3 ⟨rfl, rfl⟩
  go_wp2_with fail
  refine (rbare_any 12 W3).mono ?_
  rintro e W11 ⟨rfl, b11⟩
  have hw3 : w.heap.size < W3.heap.size := lt_of_block HX13.out
  have hx11 := (b11.block w.heap.size hw3).trans HX13.out
  have y0 : W11.cell? ⟨w.heap.size, 0, none⟩ = some (.int .i64 0) := by simp [World.cell?, hx11]
  have y1 : W11.cell? ⟨w.heap.size, 1, none⟩ = some (.int .i64 0) := by simp [World.cell?, hx11]
  have z0 : W11.frozen? ⟨w.heap.size, 0, none⟩ = false := by simp [World.frozen?, hx11]
  have z1 : W11.frozen? ⟨w.heap.size, 1, none⟩ = false := by simp [World.frozen?, hx11]
  have hw11 : w.heap.size < W11.heap.size := lt_of_block hx11
  have HX11 := Lib.hid hx11
  have HB11 := Lib.hid (HB03.out.trans (b11.mono HB03.out.size))
  clear hx11 b11
  go_wp2_with fail
  obtain ⟨W12, hW12⟩ : ∃ W12, W12 = (W11.setCell ⟨w.heap.size, 0, none⟩ (.int .i64 12)).setCell ⟨w.heap.size, 1, none⟩ (.int .i64 (-1)) := ⟨_, rfl⟩
  rw [← hW12]
  have hx12 : W12.heap[w.heap.size]? = some (.cells #[.int .i64 12, .int .i64 (-1)] 76 (0, 0)) := by
    rw [hW12]; have := block_set (block_set HX11.out 0 (.int .i64 12)) 1 (.int .i64 (-1)); simpa using this
  have hb12 : Below w.heap.size w W12 := by
    rw [hW12]; exact (HB11.out.setCell (p := ⟨w.heap.size, 0, none⟩) (Nat.le_refl _) _).setCell (p := ⟨w.heap.size, 1, none⟩) (Nat.le_refl _) _
  have k0 : W12.cell? ⟨w.heap.size, 0, none⟩ = some (.int .i64 12) := by simp [World.cell?, hx12]
  have k1 : W12.cell? ⟨w.heap.size, 1, none⟩ = some (.int .i64 (-1)) := by simp [World.cell?, hx12]
  exact bodyPost_ret (v := .agg #[.int .i64 12, .int .i64 (-1)]) (by simp [results, Tryz.results23, go_sem, k0, k1]) rfl ⟨rfl, hb12⟩
end
end Go.Proofs.YtacedfcckkpciaaGreatDoor

namespace Go.Proofs.YtacedfcckkpciaaGreatDoor
open Go.RowKit Go.Deep Go.Shelf Go.Sort Go.Maps

set_option maxRecDepth 100000 in
set_option maxHeartbeats 2000000 in
theorem pcommit_bad (ao : Option Addr) (c : Nat) (l : List OpP) (pb po : Nat) (w : World) (hl : opsAt w ao l) (hm : l.length ≤ maxLen) (hs : ∀ o ∈ l, o.key.word.size ≤ 100000 ∧ o.value.size ≤ 100000) (hg : PowTab w) (hok : okL l = false) :
    Calls Tryz.prog 11 #[.pointer (some ⟨pb, po, none⟩), .slice ao l.length c] w fun e w' => (∃ v, e = .returned v ∧ ErrIs w' v (writeR l).2.1 (writeR l).2.2) ∧ Below w.heap.size w w' := by
  have hfw := fwrite_any ao c l w hl hm hs hg
  have hne := okL_not hok
  generalize (writeR l).1 = txt at *
  generalize (writeR l).2.1 = n at *
  generalize (writeR l).2.2 = p at *
  have HFW := Lib.hid hfw
  have HNE := Lib.hid hne
  clear hfw hl hm hs hg hok hne
  go_enter Tryz.func11, Tryz.ntmps11
  go_wp2_with fail
  refine HFW.out.mono ?_
  rintro e w1 ⟨⟨v, rfl, hv, hnil⟩, b1⟩
  obtain ⟨t, x, rfl⟩ : ∃ t x, v = .iface t x := by
    rcases hnil with h | h
    · exact absurd h.2 HNE.out
    · exact h.1
  have HV := Lib.hid hv
  have HB := Lib.hid b1
  clear hv hnil b1
  go_wp2_with fail
  go_ret
  exact ⟨⟨_, rfl, HV.out⟩, HB.out⟩
set_option maxRecDepth 100000 in
set_option maxHeartbeats 2000000 in
theorem pcommit_full (ao : Option Addr) (c : Nat) (l : List OpP) (pb po : Nat) (R : Rest) (s : Pst) (g : Gh) (w : World) (h : PastAt w pb po R s g) (hl : opsAt w ao l) (hg : PowTab w) (hok : okL l = true) (hn : 150 ≤ s.now) :
    Calls Tryz.prog 11 #[.pointer (some ⟨pb, po, none⟩), .slice ao l.length c] w fun e w' => e = .returned (errV 12) ∧ Below w.heap.size w w' := by
  obtain ⟨⟨hl1, hl8⟩, hall⟩ := okL_iff.1 hok
  have hsz : ∀ o ∈ l, o.key.word.size ≤ 100000 ∧ o.value.size ≤ 100000 := fun o ho => by
    have h1 := List.all_eq_true.1 hall o ho
    have h2 := (wfkey (op_key h1)).2
    rcases op_value h1 with h3 | h3
    · omega
    · unfold wordB at h3; simp at h3; omega
  have hfw := fwrite_any ao c l w hl (by unfold maxLen; omega) hsz hg
  rw [okL_write hok] at hfw
  have HFW := Lib.hid hfw
  have HP := Lib.hid h
  clear hfw hl hg hok hsz hall h
  unfold errV
  go_enter Tryz.func11, Tryz.ntmps11
  go_wp2_with fail
  refine HFW.out.mono ?_
  rintro e w1 ⟨⟨v, rfl, _, hnil⟩, b1⟩
  have hv : v = .nilIface := by
    rcases hnil with h | h
    · exact h.1
    · exact absurd rfl h.2
  subst hv
  have P1 := HP.out.below b1
  have HB1 := Lib.hid b1
  obtain ⟨c0, _, _, _, _⟩ := past_cells P1.len P1.cells
  have hpl := P1.lt pb (Or.inl rfl)
  clear b1 P1 hnil
  go_wp2_with fail
  go_ret
  exact ⟨rfl, HB1.out⟩
end Go.Proofs.YtacedfcckkpciaaGreatDoor
