/- sort.Slice of the reference's keys, by a less that lays blocks. -/
import Derived.Shelf.GgSortFunc.Tiny
import Derived.Test.YtacedfcckkpciaaGreatDoorSqFL
import Derived.Test.YtacedfcckkpciaaGreatDoorFcGL
import Derived.Test.YtacedfcckkpciaaGreatDoorPwML
import Derived.Test.YtacedfcckkpciaaGreatDoorClsL
namespace Go.Proofs.YtacedfcckkpciaaGreatDoor
open Go.RowKit Go.Shelf Go.Sort Go.Lib Go.Deep

theorem permIn_perm {d d' : Array KeyP} (h : PermIn 0 d.size d d') : d'.toList.Perm d.toList := by
  have h3 := h.2.2
  have hs := h.1
  have e1 : d'.extract 0 d.size = d' := by rw [← hs]; exact Array.extract_size
  have e2 : d.extract 0 d.size = d := Array.extract_size
  rw [e1, e2] at h3
  exact h3
theorem sortedIn_strict {d : Array KeyP} (hs : SortedIn keyLess 0 d.size d) (hn : d.toList.Nodup) : d.toList.Pairwise fun x y => keyLess x y = true := by
  rw [List.pairwise_iff_getElem]
  intro i j hi hj hij
  have hi' : i < d.size := by simpa using hi
  have hj' : j < d.size := by simpa using hj
  have h1 := hs i j (Nat.zero_le _) hij hj'
  rw [getElem!_pos d i hi', getElem!_pos d j hj'] at h1
  have hne : d[i] ≠ d[j] := by
    have := List.pairwise_iff_getElem.1 hn i j hi hj hij
    simpa using this
  rcases keyLess_tri d[i] d[j] with h | h | h
  · simpa using h
  · exact absurd h hne
  · rw [h1] at h; cases h
/-- Behind the sort: the row as one's own. -/
theorem At.own {base g cap : Nat} {w W : World} {d d' : Array KeyP} {v : Value} (hown : w.ownsRow base 29 4 v d.size (flatKeys d.toList)) (hv : v = .slice (some ⟨g, 0, none⟩) d.size cap) (h : At g w W d') (hs : d'.size = d.size) : W.ownsRow base 29 4 v d'.size (flatKeys d'.toList) := by
  rcases hown.2 with ⟨h0, _⟩ | ⟨g0, cap0, cur, h0, hbg, hh, hnc, hcm, hcs, htk⟩
  · rw [h0] at hv; cases hv
  · rw [h0] at hv; cases hv
    obtain ⟨cur', hh', hcs'⟩ := h.sh _ _ _ hh
    refine ⟨by rw [flatKeys_length]; simp, .inr ⟨g, cap, cur', by rw [h0, hs], hbg, hh', by omega, hcm, by omega, ?_⟩⟩
    have hF : (flatK encK 4 d').toList = flatKeys d'.toList := by
      have := flatK_toList encK 4 (fun _ => rfl) (by decide) d'.toList
      simpa [flatKeys] using this
    rw [← hF]
    apply List.ext_getElem?
    intro j
    by_cases hj : j < d'.size * 4
    · have hr := (h.row j (by simpa using hj)).1
      rw [Nat.zero_add] at hr
      rw [block_cell hh'] at hr
      rw [List.getElem?_take_of_lt hj, Array.getElem?_toList, hr]
      simp [hj]
    · rw [List.getElem?_take_eq_none (by omega), List.getElem?_eq_none (by simp; omega)]
set_option maxHeartbeats 2000000 in
theorem sLess_any {bo blk n c : Nat} {w : World} (hbo : w.cell? ⟨bo, 0, none⟩ = some (.slice (some ⟨blk, 0, none⟩) n c)) (hne : bo ≠ blk) (hsz : n < 4611686018427387904) (X : World) (d : Array KeyP) (hA : At blk w X d) (hs : d.size = n) (i j : Nat) (hi : i < n) (hj : j < n) :
    Calls Tryz.prog 95 (#[.int .i64 i, .int .i64 j] ++ #[.pointer (some ⟨bo, 0, none⟩)]) X fun e X' => e = .returned (.bool (keyLess d[i]! d[j]!)) ∧ Below X.heap.size X X' := by
  have b0 := hA.cell hne (World.block_lt_of_cell? w _ hbo) hbo
  have hbl := World.block_lt_of_cell? X _ b0
  have hil : blk < X.heap.size := hA.lt'
  have ci := fun c (hc : c < 4) => (hA.row.cell (i := i) (c := c) (by omega) hc).1
  have cj := fun c (hc : c < 4) => (hA.row.cell (i := j) (c := c) (by omega) hc).1
  have hL := Lib.hid (rless_any d[i]!.kind d[i]!.a d[i]!.b d[j]!.kind d[j]!.a d[j]!.b d[i]!.word d[j]!.word)
  generalize d[i]! = p at *
  generalize d[j]! = q at *
  obtain ⟨pk, pa, pw, pb⟩ := p
  obtain ⟨qk, qa, qw, qb⟩ := q
  have i0 : X.cell? ⟨blk, i * 4, none⟩ = some (.int .i64 pk) := by have := ci 0 (by decide); simpa [encK] using this
  have i1 : X.cell? ⟨blk, i * 4 + 1, none⟩ = some (.int .i64 pa) := by have := ci 1 (by decide); simpa [encK] using this
  have i2 : X.cell? ⟨blk, i * 4 + 2, none⟩ = some (.string pw) := by have := ci 2 (by decide); simpa [encK] using this
  have i3 : X.cell? ⟨blk, i * 4 + 3, none⟩ = some (.int .i64 pb) := by have := ci 3 (by decide); simpa [encK] using this
  have j0 : X.cell? ⟨blk, j * 4, none⟩ = some (.int .i64 qk) := by have := cj 0 (by decide); simpa [encK] using this
  have j1 : X.cell? ⟨blk, j * 4 + 1, none⟩ = some (.int .i64 qa) := by have := cj 1 (by decide); simpa [encK] using this
  have j2 : X.cell? ⟨blk, j * 4 + 2, none⟩ = some (.string qw) := by have := cj 2 (by decide); simpa [encK] using this
  have j3 : X.cell? ⟨blk, j * 4 + 3, none⟩ = some (.int .i64 qb) := by have := cj 3 (by decide); simpa [encK] using this
  show Calls Tryz.prog 95 #[.int .i64 i, .int .i64 j, .pointer (some ⟨bo, 0, none⟩)] X _
  clear ci cj hA hbo
  go_enter Tryz.func95, Tryz.ntmps95
  have hi0 : (0 : Int) ≤ (i : Int) := by omega
  have hi1 : (i : Int) < (n : Int) := by omega
  have hj0 : (0 : Int) ≤ (j : Int) := by omega
  have hj1 : (j : Int) < (n : Int) := by omega
  go_wp2_with fail
  have z0 : ∀ Y : InC (Bel X), Y.w.cell? ⟨bo, 0, none⟩ = some (.slice (some ⟨blk, 0, none⟩) n c) := fun Y => Y.cell b0
  have y0 : ∀ Y : InC (Bel X), Y.w.cell? ⟨blk, i * 4, none⟩ = some (.int .i64 pk) := fun Y => Y.cell i0
  have y1 : ∀ Y : InC (Bel X), Y.w.cell? ⟨blk, i * 4 + 1, none⟩ = some (.int .i64 pa) := fun Y => Y.cell i1
  have y2 : ∀ Y : InC (Bel X), Y.w.cell? ⟨blk, i * 4 + 2, none⟩ = some (.string pw) := fun Y => Y.cell i2
  have y3 : ∀ Y : InC (Bel X), Y.w.cell? ⟨blk, i * 4 + 3, none⟩ = some (.int .i64 pb) := fun Y => Y.cell i3
  have x0 : ∀ Y : InC (Bel X), Y.w.cell? ⟨blk, j * 4, none⟩ = some (.int .i64 qk) := fun Y => Y.cell j0
  have x1 : ∀ Y : InC (Bel X), Y.w.cell? ⟨blk, j * 4 + 1, none⟩ = some (.int .i64 qa) := fun Y => Y.cell j1
  have x2 : ∀ Y : InC (Bel X), Y.w.cell? ⟨blk, j * 4 + 2, none⟩ = some (.string qw) := fun Y => Y.cell j2
  have x3 : ∀ Y : InC (Bel X), Y.w.cell? ⟨blk, j * 4 + 3, none⟩ = some (.int .i64 qb) := fun Y => Y.cell j3
  refine wp_region_in (S := Bel X) (by kernel_rfl) (by kernel_rfl) (bel_drew (Below.refl _ X)) (fun hne => ?_)
  repeat (go_big_quiet_step (first | (go_at_call 96; exact InC.call (hL.out _))))
  refine wpQuiet_nil ?_
  rintro _ ⟨Y, rfl⟩
  go_wp2_with fail
  go_ret
  exact ⟨rfl, Y.ok⟩
noncomputable def kiT : TypeInfo := (Tryz.prog.info? 64).get (by kernel_rfl)
noncomputable def kiE : TypeInfo := (Tryz.prog.info? 29).get (by kernel_rfl)
theorem kiK (n : Nat) (h2 : 2 ≤ n) : Lib.swapperK n kiE 25 = 9 := by
  have a : kiE.hasPointers = true := by kernel_rfl
  have b : kiE.bytes = 40 := by kernel_rfl
  unfold Lib.swapperK
  rw [a, b]
  have h0 : (n == 0) = false := by simp; omega
  have h1 : (n == 1) = false := by simp; omega
  rw [h0, h1]; rfl
set_option maxHeartbeats 2000000 in
set_option maxRecDepth 100000 in
theorem rsortKeys_tiny (v : Value) (p : Option Addr) (n c : Nat) (hv : v = .slice p n c) (h1 : n ≤ 1) (bo : Nat) (w : World) :
    Calls Tryz.prog 94 #[.iface 64 v, .func (.func 95) #[] #[.pointer (some ⟨bo, 0, none⟩)]] w fun e w' => e = .returned (.tuple #[]) ∧ Below w.heap.size w w' := by
  subst hv
  have hd : ∃ f, Tryz.prog.funcs.findIdx? (·.name == "internal/reflectlite" ++ ".Swapper$" ++ toString (Lib.swapperK n kiE 25)) = some f := by
    rcases Nat.eq_zero_or_pos n with h | h
    · subst h; exact ⟨177, by kernel_rfl⟩
    · obtain rfl : n = 1 := by omega
      exact ⟨178, by kernel_rfl⟩
  obtain ⟨f, hf⟩ := hd
  refine (Any.sort_Slice_tiny Tryz.laysGg6 64 29 kiT kiE (by kernel_rfl) (by kernel_rfl) (by kernel_rfl) (by kernel_rfl) 25 (fun _ => by kernel_rfl) p n c h1 f hf (.func 95) #[] #[.pointer (some ⟨bo, 0, none⟩)] w).mono ?_
  rintro e w' ⟨rfl, os, rfl⟩
  exact ⟨rfl, rfl, rfl, rfl, by rw [Go.Sort.size_grow]; omega, fun k hk => heap_grow_old w os hk⟩
set_option maxHeartbeats 4000000 in
set_option maxRecDepth 100000 in
theorem rsortKeys_own (bo base : Nat) (v : Value) (l : List KeyP) (w : World) (hown : w.ownsRow base 29 4 v l.length (flatKeys l)) (hbo : w.cell? ⟨bo, 0, none⟩ = some v) (hlt : bo < base) (hb : base ≤ w.heap.size) (hn : l.Nodup) (hsz : l.length < 4611686018427387904) :
    Calls Tryz.prog 94 #[.iface 64 v, .func (.func 95) #[] #[.pointer (some ⟨bo, 0, none⟩)]] w fun e w' => e = .returned (.tuple #[]) ∧ (∃ S : List KeyP, S.length = l.length ∧ S.Pairwise (fun x y => keyLess x y = true) ∧ (∀ k, k ∈ S ↔ k ∈ l) ∧ w'.ownsRow base 29 4 v S.length (flatKeys S)) ∧ Below base w w' := by
  by_cases h2 : l.length ≤ 1
  · have hS : l.Pairwise (fun x y => keyLess x y = true) := by
      match l, h2 with
      | [], _ => exact List.Pairwise.nil
      | [x], _ => simp
      | x :: y :: r, h => simp at h
    have hv : ∃ p n c, v = .slice p n c ∧ n ≤ 1 := by
      rcases hown.2 with ⟨rfl, h0⟩ | ⟨g0, cap, cur, rfl, _⟩
      · exact ⟨none, 0, 0, rfl, by decide⟩
      · exact ⟨_, _, _, rfl, h2⟩
    obtain ⟨p, n, c, hv, hn1⟩ := hv
    refine (rsortKeys_tiny v p n c hv hn1 bo w).mono ?_
    rintro e w' ⟨rfl, b⟩
    exact ⟨rfl, ⟨l, rfl, hS, fun _ => Iff.rfl, ownsRow_below hown b⟩, b.mono hb⟩
  · rcases hown.2 with ⟨h0, h1⟩ | ⟨g0, cap, cur, h0, hbg, hh, hnc, hcm, hcs, htk⟩
    · omega
    · subst h0
      have hgl : g0 < w.heap.size := lt_of_block hh
      have hF : (flatK encK 4 l.toArray).toList = flatKeys l := flatK_toList encK 4 (fun _ => rfl) (by decide) l
      have hH : HoldsK encK 4 w g0 0 l.toArray := by
        intro j hj
        have hj' : j < l.length * 4 := by simpa using hj
        rw [Nat.zero_add]
        refine ⟨?_, hown.frozenAt j⟩
        rw [hown.cellAt j hj', ← hF]
        simp [hj']
      have hA : At g0 w w l.toArray := At.start hH hgl
      have hne : bo ≠ g0 := by omega
      refine Any.sort_Slice_of_pdq Tryz.laysGg6 64 29 kiT kiE (by kernel_rfl) (by kernel_rfl) (by kernel_rfl) (by kernel_rfl) 25 (fun _ => by kernel_rfl) _ l.length cap hsz 185 (by rw [kiK _ (by omega)]; kernel_rfl) (.func 95) #[] #[.pointer (some ⟨bo, 0, none⟩)] w _ ?_
      have hB : sliceBound Tryz.prog 29 kiE 25 (some ⟨g0, 0, none⟩) l.length cap = #[.slice (some ⟨g0, 0, none⟩) l.length cap, typeHandle Tryz.prog 29] := by
        unfold sliceBound; rw [if_neg (Go.Proofs.swapperK_gt _ _ _ (by omega))]
      obtain ⟨W, hW⟩ : ∃ W, W = sliceWorld Tryz.prog Tryz.laysGg6_ren 64 (some ⟨g0, 0, none⟩) l.length cap w := ⟨_, rfl⟩
      have hbW : Below w.heap.size w W := by
        rw [hW]; unfold sliceWorld
        exact ((Below.refl _ _).alloc (Nat.le_refl _) _).alloc (by simp) _
      rw [hB]
      show Calls Tryz.prog 127 _ (sliceWorld Tryz.prog _ 64 (some ⟨g0, 0, none⟩) l.length cap w) _
      rw [← hW]
      have hAW : At g0 w W l.toArray := hA.below hbW
      have hX : SX 95 185 g0 #[.pointer (some ⟨bo, 0, none⟩)] #[.slice (some ⟨g0, 0, none⟩) l.length cap, typeHandle Tryz.prog 29] l.length W :=
        ⟨enters_of Tryz.func95 (by kernel_rfl) rfl, fun X d hX hs i j hi hj => sLess_any (below_cell hbW (by omega) hbo) hne hsz X d hX hs i j hi hj,
          swapSwapsK_of_literal false 185 (fun args W => run_callFunc_extern Tryz.func185 (by kernel_rfl) (by kernel_rfl) (by kernel_rfl) (e := Extern.ReflectliteSwapper.swap false) (by kernel_rfl) args W) 29 kiE (by kernel_rfl) encK 4 (fun _ => rfl) (by kernel_rfl) (fun _ => by kernel_rfl) (fun x v hv => by simp [encK] at hv; rcases hv with rfl | rfl | rfl | rfl <;> rfl) g0 0 l.length cap, hsz⟩
      have hlim : Lib.bitLen l.length < 4611686018427387904 := Nat.lt_of_le_of_lt (Lib.bitLen_le l.length 62 (by omega) (by omega)) (by omega)
      refine (sPdq_any (l.length + 1) 0 l.length (Lib.bitLen l.length) l.toArray W (by omega) hX hAW.here (by simp) (Nat.zero_le _) (Nat.le_refl _) hlim (Or.inl rfl)).mono ?_
      rintro e w' ⟨rfl, hA'⟩
      have hp := pdq_sorts keyLess swoKL l.toArray 0 l.length (Lib.bitLen l.length) true true (Nat.zero_le _) (by simp) (Or.inl rfl)
      generalize pdq keyLess l.toArray 0 l.length (Lib.bitLen l.length) true true = d' at *
      obtain ⟨hp1, hp2⟩ := hp
      have hsz' : d'.size = l.length := by have := hp1.1; simpa using this
      have hperm : d'.toList.Perm l := by
        have := permIn_perm (d := l.toArray) (d' := d') (by simpa using hp1)
        simpa using this
      have hA'' := hAW.trans hA'
      refine ⟨rfl, ⟨d'.toList, by simpa using hsz', sortedIn_strict (by rw [hsz']; exact hp2) (hperm.nodup_iff.2 hn), fun k => hperm.mem_iff, ?_⟩, ?_⟩
      · have := At.own (base := base) (g := g0) (cap := cap) (w := w) (W := w') (d := l.toArray) (d' := d') (v := .slice (some ⟨g0, 0, none⟩) l.length cap) (by simpa using hown) (by simp) hA'' (by simpa using hsz')
        simpa using this
      · exact hA''.fr.below (B := base) (fun k _ e => by omega) hb
end Go.Proofs.YtacedfcckkpciaaGreatDoor
