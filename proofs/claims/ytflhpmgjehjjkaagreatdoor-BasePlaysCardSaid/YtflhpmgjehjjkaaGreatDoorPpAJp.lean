/- The real past and the reference's, side by side: one transaction, one forgetting. -/
import Derived.Shelf.GgSortFunc.Tiny
import Derived.Sort.OwnSorted
import Derived.Deep.RegionHeld3
import Derived.Deep.DeepCutAuto
import Derived.Test.YtflhpmgjehjjkaaGreatDoorSqFJp
import Derived.Test.YtflhpmgjehjjkaaGreatDoorFcGJp
import Derived.Test.YtflhpmgjehjjkaaGreatDoorPwMJp
import Derived.Test.YtflhpmgjehjjkaaGreatDoorClsJp
import Derived.Test.YtflhpmgjehjjkaaGreatDoorRpDJp
import Derived.Test.YtflhpmgjehjjkaaGreatDoorRpJJp
import Derived.Test.YtflhpmgjehjjkaaGreatDoorInLJp
import Derived.Test.YtflhpmgjehjjkaaGreatDoorRpLJp
import Derived.Test.YtflhpmgjehjjkaaGreatDoorRpIJp
import Derived.Test.YtflhpmgjehjjkaaGreatDoorAppJp
import Derived.Test.YtflhpmgjehjjkaaGreatDoorErrCJp
import Derived.Test.YtflhpmgjehjjkaaGreatDoorRpHJp
namespace Go.Proofs.YtflhpmgjehjjkaaGreatDoor
open Go.RowKit Go.Shelf Go.Sort Go.Lib Go.Deep
theorem permIn_perm {d d' : Array KeyP} (h : PermIn 0 d.size d d') : d'.toList.Perm d.toList := by
 have h3 := h.2.2
 have hs := h.1
 have e1 : d'.extract 0 d.size = d' := by rw [<- hs]; exact Array.extract_size
 have e2 : d.extract 0 d.size = d := Array.extract_size
 rw [e1, e2] at h3
 exact h3
theorem sortedIn_strict {d : Array KeyP} (hs : SortedIn keyLess 0 d.size d) (hn : d.toList.Nodup) : d.toList.Pairwise fun x y => keyLess x y = true := by
 rw [List.pairwise_iff_getElem]
 intro i j hi hj hij
 have hi' : i < d.size := by simpa using hi
 have hj' : j < d.size := by simpa using hj
 have h1 := hs i j (Nat.zero_le _) hij hj'
 rw [getElem!_pos d i hi', getElem!_pos d j hj'] at h1
 have hne : d[i] ≠ d[j] := by
  have := List.pairwise_iff_getElem.1 hn i j hi hj hij
  simpa using this
 rcases keyLess_tri d[i] d[j] with h | h | h
 · simpa using h
 · exact absurd h hne
 · rw [h1] at h; cases h
theorem At.own {base g cap : Nat} {w W : World} {d d' : Array KeyP} {v : Value} (hown : w.ownsRow base 44 4 v d.size (flatKeys d.toList)) (hv : v = .slice (some ⟨g, 0, none⟩) d.size cap) (h : At g w W d') (hs : d'.size = d.size) : W.ownsRow base 44 4 v d'.size (flatKeys d'.toList) := by
 rcases hown.2 with ⟨h0, _⟩ | ⟨g0, cap0, cur, h0, hbg, hh, hnc, hcm, hcs, htk⟩
 · rw [h0] at hv; cases hv
 · rw [h0] at hv; cases hv
   obtain ⟨cur', hh', hcs'⟩ := h.sh _ _ _ hh
   refine ⟨by rw [flatKeys_length]; simp, .inr ⟨g, cap, cur', by rw [h0, hs], hbg, hh', by omega, hcm, by omega, ?_⟩⟩
   have hF : (flatK encK 4 d').toList = flatKeys d'.toList := by
    have := flatK_toList encK 4 (fun _ => rfl) (by decide) d'.toList
    simpa [flatKeys] using this
   rw [<- hF]
   apply List.ext_getElem?
   intro j
   by_cases hj : j < d'.size * 4
   · have hr := (h.row j (by simpa using hj)).1
     rw [Nat.zero_add] at hr
     rw [block_cell hh'] at hr
     rw [List.getElem?_take_of_lt hj, Array.getElem?_toList, hr]
     simp [hj]
   · rw [List.getElem?_take_eq_none (by omega), List.getElem?_eq_none (by simp; omega)]
set_option maxHeartbeats 2000000 in
theorem sLess_any {bo blk n c : Nat} {w : World} (hbo : w.cell? ⟨bo, 0, none⟩ = some (.slice (some ⟨blk, 0, none⟩) n c)) (hne : bo ≠ blk) (_hsz : n < 4611686018427387904) (X : World) (d : Array KeyP) (hA : At blk w X d) (hs : d.size = n) (i j : Nat) (hi : i < n) (hj : j < n) :
  Calls Tryz.prog 117 (#[.int .i64 i, .int .i64 j] ++ #[.pointer (some ⟨bo, 0, none⟩)]) X fun e X' => e = .returned (.bool (keyLess d[i]! d[j]!)) /\ Below X.heap.size X X' := by
 have b0 := hA.cell hne (World.block_lt_of_cell? w _ hbo) hbo
 have hbl := World.block_lt_of_cell? X _ b0
 have hil : blk < X.heap.size := hA.lt'
 have ci := fun c (hc : c < 4) => (hA.row.cell (i := i) (c := c) (by omega) hc).1
 have cj := fun c (hc : c < 4) => (hA.row.cell (i := j) (c := c) (by omega) hc).1
 have hL := Lib.hid (rless_any d[i]!.kind d[i]!.a d[i]!.b d[j]!.kind d[j]!.a d[j]!.b d[i]!.word d[j]!.word)
 generalize d[i]! = p at *
 generalize d[j]! = q at *
 obtain ⟨pk, pa, pw, pb⟩ := p
 obtain ⟨qk, qa, qw, qb⟩ := q
 have i0 : X.cell? ⟨blk, i * 4, none⟩ = some (.int .i64 pk) := by have := ci 0 (by decide); simpa [encK] using this
 have i1 : X.cell? ⟨blk, i * 4 + 1, none⟩ = some (.int .i64 pa) := by have := ci 1 (by decide); simpa [encK] using this
 have i2 : X.cell? ⟨blk, i * 4 + 2, none⟩ = some (.string pw) := by have := ci 2 (by decide); simpa [encK] using this
 have i3 : X.cell? ⟨blk, i * 4 + 3, none⟩ = some (.int .i64 pb) := by have := ci 3 (by decide); simpa [encK] using this
 have j0 : X.cell? ⟨blk, j * 4, none⟩ = some (.int .i64 qk) := by have := cj 0 (by decide); simpa [encK] using this
 have j1 : X.cell? ⟨blk, j * 4 + 1, none⟩ = some (.int .i64 qa) := by have := cj 1 (by decide); simpa [encK] using this
 have j2 : X.cell? ⟨blk, j * 4 + 2, none⟩ = some (.string qw) := by have := cj 2 (by decide); simpa [encK] using this
 have j3 : X.cell? ⟨blk, j * 4 + 3, none⟩ = some (.int .i64 qb) := by have := cj 3 (by decide); simpa [encK] using this
 show Calls Tryz.prog 117 #[.int .i64 i, .int .i64 j, .pointer (some ⟨bo, 0, none⟩)] X _
 clear ci cj hA hbo
 go_enter Tryz.func117, Tryz.ntmps117
 have hi0 : (0 : Int) <= (i : Int) := by omega
 have hi1 : (i : Int) < (n : Int) := by omega
 have hj0 : (0 : Int) <= (j : Int) := by omega
 have hj1 : (j : Int) < (n : Int) := by omega
 go_wp2_with fail
 have z0 : ∀ Y : InC (Bel X), Y.w.cell? ⟨bo, 0, none⟩ = some (.slice (some ⟨blk, 0, none⟩) n c) := fun Y => Y.cell b0
 have y0 : ∀ Y : InC (Bel X), Y.w.cell? ⟨blk, i * 4, none⟩ = some (.int .i64 pk) := fun Y => Y.cell i0
 have y1 : ∀ Y : InC (Bel X), Y.w.cell? ⟨blk, i * 4 + 1, none⟩ = some (.int .i64 pa) := fun Y => Y.cell i1
 have y2 : ∀ Y : InC (Bel X), Y.w.cell? ⟨blk, i * 4 + 2, none⟩ = some (.string pw) := fun Y => Y.cell i2
 have y3 : ∀ Y : InC (Bel X), Y.w.cell? ⟨blk, i * 4 + 3, none⟩ = some (.int .i64 pb) := fun Y => Y.cell i3
 have x0 : ∀ Y : InC (Bel X), Y.w.cell? ⟨blk, j * 4, none⟩ = some (.int .i64 qk) := fun Y => Y.cell j0
 have x1 : ∀ Y : InC (Bel X), Y.w.cell? ⟨blk, j * 4 + 1, none⟩ = some (.int .i64 qa) := fun Y => Y.cell j1
 have x2 : ∀ Y : InC (Bel X), Y.w.cell? ⟨blk, j * 4 + 2, none⟩ = some (.string qw) := fun Y => Y.cell j2
 have x3 : ∀ Y : InC (Bel X), Y.w.cell? ⟨blk, j * 4 + 3, none⟩ = some (.int .i64 qb) := fun Y => Y.cell j3
 refine wp_region_in (S := Bel X) (by kernel_rfl) (by kernel_rfl) (bel_drew (Below.refl _ X)) (fun hne => ?_)
 repeat (go_big_quiet_step (first | (go_at_call 118; exact InC.call (hL.out _))))
 refine wpQuiet_nil ?_
 rintro _ ⟨Y, rfl⟩
 go_wp2_with fail
 go_ret
 exact ⟨rfl, Y.ok⟩
noncomputable def kiT : TypeInfo := (Tryz.prog.info? 41).get (by kernel_rfl)
noncomputable def kiE : TypeInfo := (Tryz.prog.info? 44).get (by kernel_rfl)
theorem kiK (n : Nat) (h2 : 2 <= n) : Lib.swapperK n kiE 25 = 9 := by
 have a : kiE.hasPointers = true := by kernel_rfl
 have b : kiE.bytes = 40 := by kernel_rfl
 unfold Lib.swapperK
 rw [a, b]
 have h0 : (n == 0) = false := by simp; omega
 have h1 : (n == 1) = false := by simp; omega
 rw [h0, h1]; rfl
set_option maxHeartbeats 2000000 in
set_option maxRecDepth 100000 in
theorem rsortKeys_tiny (v : Value) (p : Option Addr) (n c : Nat) (hv : v = .slice p n c) (h1 : n <= 1) (bo : Nat) (w : World) :
  Calls Tryz.prog 116 #[.iface 41 v, .func (.func 117) #[] #[.pointer (some ⟨bo, 0, none⟩)]] w fun e w' => e = .returned (.tuple #[]) /\ Below w.heap.size w w' := by
 subst hv
 have hd : ∃ f, Tryz.prog.funcs.findIdx? (·.name == "internal/reflectlite" ++ ".Swapper$" ++ toString (Lib.swapperK n kiE 25)) = some f := by
  rcases Nat.eq_zero_or_pos n with h | h
  · subst h; exact ⟨197, by kernel_rfl⟩
  · obtain rfl : n = 1 := by omega
    exact ⟨198, by kernel_rfl⟩
 obtain ⟨f, hf⟩ := hd
 refine (Any.sort_Slice_tiny Tryz.laysGg6 41 44 kiT kiE (by kernel_rfl) (by kernel_rfl) (by kernel_rfl) (by kernel_rfl) 25 (fun _ => by kernel_rfl) p n c h1 f hf (.func 117) #[] #[.pointer (some ⟨bo, 0, none⟩)] w).mono ?_
 rintro e w' ⟨rfl, os, rfl⟩
 exact ⟨rfl, rfl, rfl, rfl, by rw [Go.Sort.size_grow]; omega, fun k hk => heap_grow_old w os hk⟩
set_option maxHeartbeats 4000000 in
set_option maxRecDepth 100000 in
theorem rsortKeys_own (bo base : Nat) (v : Value) (l : List KeyP) (w : World) (hown : w.ownsRow base 44 4 v l.length (flatKeys l)) (hbo : w.cell? ⟨bo, 0, none⟩ = some v) (hlt : bo < base) (hb : base <= w.heap.size) (hn : l.Nodup) (hsz : l.length < 4611686018427387904) :
  Calls Tryz.prog 116 #[.iface 41 v, .func (.func 117) #[] #[.pointer (some ⟨bo, 0, none⟩)]] w fun e w' => e = .returned (.tuple #[]) /\ (∃ S : List KeyP, S.length = l.length /\ S.Pairwise (fun x y => keyLess x y = true) /\ (∀ k, k ∈ S ↔ k ∈ l) /\ w'.ownsRow base 44 4 v S.length (flatKeys S)) /\ Below base w w' := by
 by_cases h2 : l.length <= 1
 · have hS : l.Pairwise (fun x y => keyLess x y = true) := by
    match l, h2 with
    | [], _ => exact List.Pairwise.nil
    | [x], _ => simp
    | x :: y :: r, h => simp at h
   have hv : ∃ p n c, v = .slice p n c /\ n <= 1 := by
    rcases hown.2 with ⟨rfl, h0⟩ | ⟨g0, cap, cur, rfl, _⟩
    · exact ⟨none, 0, 0, rfl, by decide⟩
    · exact ⟨_, _, _, rfl, h2⟩
   obtain ⟨p, n, c, hv, hn1⟩ := hv
   refine (rsortKeys_tiny v p n c hv hn1 bo w).mono ?_
   rintro e w' ⟨rfl, b⟩
   exact ⟨rfl, ⟨l, rfl, hS, fun _ => Iff.rfl, ownsRow_below hown b⟩, b.mono hb⟩
 · rcases hown.2 with ⟨h0, h1⟩ | ⟨g0, cap, cur, h0, hbg, hh, hnc, hcm, hcs, htk⟩
   · omega
   · subst h0
     have hgl : g0 < w.heap.size := lt_of_block hh
     have hF : (flatK encK 4 l.toArray).toList = flatKeys l := flatK_toList encK 4 (fun _ => rfl) (by decide) l
     have hH : HoldsK encK 4 w g0 0 l.toArray := by
      intro j hj
      have hj' : j < l.length * 4 := by simpa using hj
      rw [Nat.zero_add]
      refine ⟨?_, hown.frozenAt j⟩
      rw [hown.cellAt j hj', <- hF]
      simp [hj']
     have hA : At g0 w w l.toArray := At.start hH hgl
     have hne : bo ≠ g0 := by omega
     refine Any.sort_Slice_of_pdq Tryz.laysGg6 41 44 kiT kiE (by kernel_rfl) (by kernel_rfl) (by kernel_rfl) (by kernel_rfl) 25 (fun _ => by kernel_rfl) _ l.length cap hsz 205 (by rw [kiK _ (by omega)]; kernel_rfl) (.func 117) #[] #[.pointer (some ⟨bo, 0, none⟩)] w _ ?_
     have hB : sliceBound Tryz.prog 44 kiE 25 (some ⟨g0, 0, none⟩) l.length cap = #[.slice (some ⟨g0, 0, none⟩) l.length cap, typeHandle Tryz.prog 44] := by
      unfold sliceBound; rw [if_neg (Go.Proofs.swapperK_gt _ _ _ (by omega))]
     obtain ⟨W, hW⟩ : ∃ W, W = sliceWorld Tryz.prog Tryz.laysGg6_ren 41 (some ⟨g0, 0, none⟩) l.length cap w := ⟨_, rfl⟩
     have hbW : Below w.heap.size w W := by
      rw [hW]; unfold sliceWorld
      exact ((Below.refl _ _).alloc (Nat.le_refl _) _).alloc (by simp) _
     rw [hB]
     show Calls Tryz.prog 164 _ (sliceWorld Tryz.prog _ 41 (some ⟨g0, 0, none⟩) l.length cap w) _
     rw [<- hW]
     have hAW : At g0 w W l.toArray := hA.below hbW
     have hX : SX 117 205 g0 #[.pointer (some ⟨bo, 0, none⟩)] #[.slice (some ⟨g0, 0, none⟩) l.length cap, typeHandle Tryz.prog 44] l.length W :=
      ⟨enters_of Tryz.func117 (by kernel_rfl) rfl, fun X d hX hs i j hi hj => sLess_any (below_cell hbW (by omega) hbo) hne hsz X d hX hs i j hi hj,
       swapSwapsK_of_literal false 205 (fun args W => run_callFunc_extern Tryz.func205 (by kernel_rfl) (by kernel_rfl) (by kernel_rfl) (e := Extern.ReflectliteSwapper.swap false) (by kernel_rfl) args W) 44 kiE (by kernel_rfl) encK 4 (fun _ => rfl) (by kernel_rfl) (fun _ => by kernel_rfl) (fun x v hv => by simp [encK] at hv; rcases hv with rfl | rfl | rfl | rfl <;> rfl) g0 0 l.length cap, hsz⟩
     have hlim : Lib.bitLen l.length < 4611686018427387904 := Nat.lt_of_le_of_lt (Lib.bitLen_le l.length 62 (by omega) (by omega)) (by omega)
     refine (sPdq_any (l.length + 1) 0 l.length (Lib.bitLen l.length) l.toArray W (by omega) hX hAW.here (by simp) (Nat.zero_le _) (Nat.le_refl _) hlim (Or.inl rfl)).mono ?_
     rintro e w' ⟨rfl, hA'⟩
     have hp := pdq_sorts keyLess swoKL l.toArray 0 l.length (Lib.bitLen l.length) true true (Nat.zero_le _) (by simp) (Or.inl rfl)
     generalize pdq keyLess l.toArray 0 l.length (Lib.bitLen l.length) true true = d' at *
     obtain ⟨hp1, hp2⟩ := hp
     have hsz' : d'.size = l.length := by have := hp1.1; simpa using this
     have hperm : d'.toList.Perm l := by
      have := permIn_perm (d := l.toArray) (d' := d') (by simpa using hp1)
      simpa using this
     have hA'' := hAW.trans hA'
     refine ⟨rfl, ⟨d'.toList, by simpa using hsz', sortedIn_strict (by rw [hsz']; exact hp2) (hperm.nodup_iff.2 hn), fun k => hperm.mem_iff, ?_⟩, ?_⟩
     · have := At.own (base := base) (g := g0) (cap := cap) (w := w) (W := w') (d := l.toArray) (d' := d') (v := .slice (some ⟨g0, 0, none⟩) l.length cap) (by simpa using hown) (by simp) hA'' (by simpa using hsz')
       simpa using this
     · exact hA''.fr.below (B := base) (fun k _ e => by omega) hb
open Go.RowKit Go.Deep Go.Shelf Go.Sort Go.Maps
theorem texts_enc (U : List ByteArray) : U.map Value.string = (U.map fun x => x.data.toList).map Go.Proofs.encStr := by
 rw [List.map_map]; rfl
theorem texts_sorted {U : List ByteArray} (hn : U.Nodup) : ∃ S : List ByteArray, ((U.map fun x => x.data.toList).mergeSort fun x y => decide (x <= y)).map Go.Proofs.encStr = S.map Value.string /\ S.length = U.length /\ S.Pairwise bLess /\ ∀ x, x ∈ S ↔ x ∈ U := by
 have hq : ((U.map fun x => x.data.toList).mergeSort (fun x y => decide (x <= y))).Perm (U.map (·.data.toList)) := List.mergeSort_perm _ _
 have hso : ((U.map fun x => x.data.toList).mergeSort (fun x y => decide (x <= y))).Pairwise fun a b => decide (a <= b) = true :=
  List.pairwise_mergeSort (fun a b c h1 h2 => by simp only [decide_eq_true_eq] at *; exact List.le_trans h1 h2) (fun a b => by simp only [Bool.or_eq_true, decide_eq_true_eq]; exact List.le_total a b) _
 have hnd : ((U.map fun x => x.data.toList).mergeSort (fun x y => decide (x <= y))).Nodup := hq.nodup_iff.2 (List.pairwise_map.2 (hn.imp fun {a b} hab e => hab (bytes_ext e)))
 refine ⟨((U.map fun x => x.data.toList).mergeSort (fun x y => decide (x <= y))).map fun l => ⟨l.toArray⟩, ?_, by simp, ?_, fun x => ?_⟩
 · rw [List.map_map]; rfl
 · rw [List.pairwise_map]
   refine (hso.and hnd).imp fun {a b} h => ?_
   unfold bLess
   rw [bytesLess_eq]
   simp only [decide_eq_true_eq]
   obtain ⟨h1, h2⟩ := h
   simp only [decide_eq_true_eq] at h1
   exact Std.lt_of_le_of_ne h1 h2
 · rw [List.mem_map]
   constructor
   · rintro ⟨l, hl, rfl⟩
     obtain ⟨y, hy, rfl⟩ := List.mem_map.1 (hq.mem_iff.1 hl)
     exact hy
   · intro hx
     exact ⟨x.data.toList, hq.mem_iff.2 (List.mem_map.2 ⟨x, hx, rfl⟩), rfl⟩
theorem sortTexts_own (base : Nat) (U : List ByteArray) (v : Value) (w : World) (hown : w.ownsRow base 9 1 v U.length (U.map Value.string)) (hb : base <= w.heap.size) (hsz : U.length < 4611686018427387904) (hn : U.Nodup) :
  Calls Tryz.prog 134 #[v] w fun e w' => e = .returned (.tuple #[]) /\ (∃ S : List ByteArray, S.length = U.length /\ S.Pairwise bLess /\ (∀ x, x ∈ S ↔ x ∈ U) /\ w'.ownsRow base 9 1 v S.length (S.map Value.string)) /\ Below base w w' := by
 obtain ⟨S, hS, hl, hp, hm⟩ := texts_sorted hn
 rcases hown.2 with ⟨rfl, h0⟩ | ⟨g, cap, cur, rfl, hbg, hh, hnc, hcm, hcs, htk⟩
 · have hU : U = [] := List.eq_nil_of_length_eq_zero h0
   subst hU
   have hS0 : S = [] := List.eq_nil_of_length_eq_zero hl
   subst hS0
   refine (Tryz.sort_Strings_none none 0 w).mono ?_
   rintro e w' ⟨rfl, rfl⟩
   exact ⟨rfl, ⟨[], hl, hp, hm, hown⟩, Below.refl _ _⟩
 · rw [texts_enc] at htk
   have hH : Holds Go.Proofs.encStr w g 0 (U.map fun x => x.data.toList).toArray := holds_of_block hh (by rw [Nat.mul_one] at htk; simpa using htk)
   have hgl : g < w.heap.size := (Array.getElem?_eq_some_iff.1 hh).1
   have := Tryz.sort_Strings g 0 cap (U.map fun x => x.data.toList) w hH hgl (by simpa using hsz)
   rw [List.length_map] at this
   refine this.mono ?_
   rintro e w' ⟨rfl, n, os, rfl⟩
   refine ⟨rfl, ⟨S, hl, hp, hm, ?_⟩, ?_⟩
   · rw [<- hS, hl]
     have h := ownsRow_sorted (n := n) (os := os) (e := 9) (ss := U.map fun x => x.data.toList) (ts := (U.map fun x => x.data.toList).mergeSort fun x y => decide (x <= y)) (by simp) hbg hh (by simpa using hnc) hcm hcs
     simpa using h
   · exact (Below.refl base w).grown (grownBy_sorted _) hb (fun k hk => by cases hk; exact hbg)
structure TL (M : List ByteArray) (left : Lit -> Bool) (U : List ByteArray) : Prop where
 nod : U.Nodup
 mem : ∀ x, x ∈ U ↔ (x ∈ M /\ left (sK x) = false) /\ x.size ≠ 0
theorem sK_same (x y : ByteArray) : (sK x).sameKey (sK y) = decide (x = y) := by
 rw [Bool.eq_iff_iff]
 simp only [decide_eq_true_eq]
 constructor
 · intro h; exact sK_inj (WideAt.sameKey_eq h)
 · intro h; subst h; exact WideAt.sameKey_self (sK_key _)
theorem TL.start {M : List ByteArray} {left : Lit -> Bool} (h : ∀ x ∈ M, left (sK x) = true) : TL M left [] :=
 ⟨List.nodup_nil, fun x => ⟨(fun h => by cases h), (fun ⟨⟨hx, hl⟩, _⟩ => by rw [h x hx] at hl; cases hl)⟩⟩
theorem tl_step {left : Lit -> Bool} (x y : ByteArray) : (left (sK y) && !(sK y).sameKey (sK x)) = false ↔ left (sK y) = false \/ y = x := by
 rw [sK_same]
 cases left (sK y) <;> simp
theorem TL.yes {M : List ByteArray} {left : Lit -> Bool} {U : List ByteArray} (h : TL M left U) {x : ByteArray} (hx : x ∈ M) (hl : left (sK x) = true) (h0 : x.size ≠ 0) : TL M (fun z => left z && !z.sameKey (sK x)) (U ++ [x]) := by
 refine ⟨List.nodup_append.2 ⟨h.nod, by simp, fun a ha b hb e => ?_⟩, fun y => ?_⟩
 · simp at hb; subst hb; subst e
   have := ((h.mem _).1 ha).1.2
   rw [hl] at this; cases this
 · rw [List.mem_append, h.mem, List.mem_singleton]
   constructor
   · rintro (⟨⟨h1, h2⟩, h3⟩ | rfl)
     · exact ⟨⟨h1, (tl_step x y).2 (.inl h2)⟩, h3⟩
     · exact ⟨⟨hx, (tl_step y y).2 (.inr rfl)⟩, h0⟩
   · rintro ⟨⟨h1, h2⟩, h3⟩
     rcases (tl_step x y).1 h2 with e | e
     · exact .inl ⟨⟨h1, e⟩, h3⟩
     · exact .inr e
theorem TL.no {M : List ByteArray} {left : Lit -> Bool} {U : List ByteArray} (h : TL M left U) {x : ByteArray} (h0 : x.size = 0) : TL M (fun z => left z && !z.sameKey (sK x)) U := by
 refine ⟨h.nod, fun y => ?_⟩
 rw [h.mem]
 constructor
 · rintro ⟨⟨h1, h2⟩, h3⟩
   exact ⟨⟨h1, (tl_step x y).2 (.inl h2)⟩, h3⟩
 · rintro ⟨⟨h1, h2⟩, h3⟩
   rcases (tl_step x y).1 h2 with e | e
   · exact ⟨⟨h1, e⟩, h3⟩
   · rw [e] at h3; exact absurd h0 h3
theorem TL.done {M : List ByteArray} {left : Lit -> Bool} {U : List ByteArray} (h : TL M left U) (hl : ∀ z, left z = false) (x : ByteArray) : x ∈ U ↔ x ∈ M /\ x.size ≠ 0 := by
 rw [h.mem, hl]; simp
structure KadIs (w : World) (b n : Nat) (L : List KeyP) : Prop where
 nod : L.Nodup
 ok : ∀ x ∈ L, keyB x = true
 own : ∃ D, w.ownsMap Tryz.prog 44 boolR b n D /\ MapOf kK (fun _ => boolD) D L
theorem KadIs.frame {F : Nat -> Prop} {w w' : World} {b n : Nat} {L : List KeyP} (h : KadIs w b n L) (hf : Fr F w w') (hn : ¬ F b) : KadIs w' b n L := by
 obtain ⟨D, h1, h2⟩ := h.own
 exact ⟨h.nod, h.ok, D, owns_frame h1 hf hn, h2⟩
theorem kad_put {D : DataW Unit} {L : List KeyP} (hn : L.Nodup) (hok : ∀ x ∈ L, keyB x = true) (h : MapOf kK (fun _ => boolD) D L) (x : KeyP) (hx : keyB x = true) : ∃ L', L'.Nodup /\ (∀ y ∈ L', keyB y = true) /\ MapOf kK (fun _ => boolD) (D.put (kK x) boolD) L' /\ ∀ y, y ∈ L' ↔ y = x \/ y ∈ L := by
 by_cases hm : x ∈ L
 · obtain ⟨l1, l2, rfl⟩ := List.append_of_mem hm
   have hp : (l1 ++ x :: l2).Perm (x :: (l1 ++ l2)) := List.perm_middle
   have hn' := hp.nodup_iff.1 hn
   obtain ⟨n1, _⟩ := List.nodup_cons.1 hn'
   have h' := (h.perm hp).over x rfl (kK_key x) (fun y hy e => n1 (by rw [<- kK_inj (hok y (hp.mem_iff.2 (List.mem_cons_of_mem _ hy))) hx e]; exact hy))
   refine ⟨x :: (l1 ++ l2), hn', fun y hy => hok y (hp.mem_iff.2 hy), h', fun y => ?_⟩
   simp only [List.mem_cons, List.mem_append]
   constructor
   · rintro (h | h | h)
     · exact .inl h
     · exact .inr (.inl h)
     · exact .inr (.inr (.inr h))
   · rintro (h | h | h | h)
     · exact .inl h
     · exact .inr (.inl h)
     · exact .inl h
     · exact .inr (.inr h)
 · refine ⟨x :: L, List.nodup_cons.2 ⟨hm, hn⟩, fun y hy => ?_, h.put x (kK_key x) (fun y hy e => hm (by rw [<- kK_inj (hok y hy) hx e]; exact hy)), fun y => List.mem_cons⟩
   rcases List.mem_cons.1 hy with rfl | hy
   · exact hx
   · exact hok y hy
set_option maxRecDepth 100000 in
theorem zeroBoolK (w : World) : (zeroValue 4).run Tryz.prog w = .ok (.bool false) w := by kernel_rfl
set_option maxRecDepth 100000 in
theorem kad_look {w : World} {b n : Nat} {L : List KeyP} (h : KadIs w b n L) {x : KeyP} (hx : keyB x = true) : (Instr.lookup 207 (.map (some b)) (.agg #[.int .i64 x.kind, .int .i64 x.a, .string x.word, .int .i64 x.b]) false).run Tryz.prog w = .ok (.bool (decide (x ∈ L))) w := by
 obtain ⟨D, hown, hD⟩ := h.own
 obtain ⟨u, ps, hr, hu⟩ := hown.lookup keyLaw Tryz.underlying207 (zeroBoolK w) (zd := .lit (.bool false)) (zp := []) rfl (keyOf_key hx)
 have e1 : (D.atKey (kK x) (.lit (.bool false))) = .lit (.bool (decide (x ∈ L))) := by
  by_cases hm : x ∈ L
  · rw [hD.at' x hm, decide_eq_true hm]; rfl
  · rw [decide_eq_false hm]
    exact atKey_of_not_has (hD.none (kK_key x) fun y hy e => hm (by rw [<- kK_inj (h.ok y hy) hx e]; exact hy)) _
 rw [e1] at hu
 unfold boolR at hu
 split at hu
 · rename_i c
   simp only [Option.some.injEq, Prod.mk.injEq] at hu
   have e := hu.1
   injection e with e1
   injection e1 with e2
   subst e2
   exact hr
 · cases hu
def seenO (hist : List (List OpP)) (i q : Nat) : List OpP := (hist.take i).flatten ++ ((hist[i]?).getD []).take q
theorem seenO_zero (hist : List (List OpP)) : seenO hist 0 0 = [] := by simp [seenO]
theorem seenO_op {hist : List (List OpP)} {i q : Nat} {tx : List OpP} {o : OpP} (h : hist[i]? = some tx) (ho : tx[q]? = some o) : seenO hist i (q + 1) = seenO hist i q ++ [o] := by
 unfold seenO
 rw [h, Option.getD_some, List.take_add_one, ho]
 simp
theorem seenO_tx {hist : List (List OpP)} {i : Nat} {tx : List OpP} (h : hist[i]? = some tx) : seenO hist i tx.length = seenO hist (i + 1) 0 := by
 unfold seenO
 rw [h, Option.getD_some, List.take_of_length_le (Nat.le_refl _), List.take_add_one, h]
 simp
theorem seenO_all {hist : List (List OpP)} : seenO hist hist.length 0 = hist.flatten := by simp [seenO]
theorem said_noneL {k : KeyP} {t : Int} : ∀ {l : List OpP} {x : ByteArray}, (∀ o ∈ l, o.key ≠ k) -> saidL l k t x = x
 | [], _, _ => rfl
 | o :: l, x, h => by
   show List.foldl _ (if k = o.key /\ o.fr <= t /\ t < o.to then o.value else x) l = x
   rw [if_neg (fun e => h o (by simp) e.1.symm)]
   exact said_noneL fun o ho => h o (List.mem_cons_of_mem _ ho)
theorem said_seen {hist : List (List OpP)} {k : KeyP} {a : Nat} {t : Int} (h : (saidH hist k a t).size ≠ 0) : ∃ o ∈ hist.flatten, o.key = k := by
 rcases Classical.em (∃ o ∈ hist.flatten, o.key = k) with h1 | h1
 · exact h1
 · exfalso
   apply h
   have : saidH hist k a t = ⟨#[]⟩ := said_noneL fun o ho e => h1 ⟨o, by
    obtain ⟨l, hl, ho⟩ := List.mem_flatten.1 ho
    exact List.mem_flatten.2 ⟨l, List.mem_of_mem_take hl, ho⟩, e⟩
   rw [this]; rfl
structure GK (hist : List (List OpP)) (a : Nat) (t : Int) (i q : Nat) (M U : List KeyP) : Prop where
 mem : ∀ k, k ∈ M ↔ ∃ o ∈ seenO hist i q, o.key = k
 nod : U.Nodup
 out : ∀ k, k ∈ U ↔ k ∈ M /\ (saidH hist k a t).size ≠ 0
theorem GK.zero (hist : List (List OpP)) (a : Nat) (t : Int) : GK hist a t 0 0 [] [] :=
 ⟨fun k => ⟨(fun h => by cases h), fun ⟨o, ho, _⟩ => by rw [seenO_zero] at ho; cases ho⟩, List.nodup_nil, fun k => ⟨(fun h => by cases h), (fun h => by cases h.1)⟩⟩
theorem GK.tx {hist : List (List OpP)} {a : Nat} {t : Int} {i : Nat} {M U : List KeyP} {tx : List OpP} (h : GK hist a t i tx.length M U) (htx : hist[i]? = some tx) : GK hist a t (i + 1) 0 M U :=
 ⟨fun k => by rw [h.mem, seenO_tx htx], h.nod, h.out⟩
theorem GK.old {hist : List (List OpP)} {a : Nat} {t : Int} {i q : Nat} {M M' U : List KeyP} {tx : List OpP} {o : OpP} (h : GK hist a t i q M U) (htx : hist[i]? = some tx) (ho : tx[q]? = some o) (hm : o.key ∈ M) (hM : ∀ y, y ∈ M' ↔ y = o.key \/ y ∈ M) : GK hist a t i (q + 1) M' U := by
 have e : ∀ y, y ∈ M' ↔ y ∈ M := fun y => by rw [hM]; exact ⟨fun h => h.elim (fun e => by rw [e]; exact hm) id, .inr⟩
 refine ⟨fun k => ?_, h.nod, fun k => by rw [h.out, e]⟩
 rw [e, h.mem, seenO_op htx ho]
 constructor
 · rintro ⟨o', ho', e'⟩; exact ⟨o', by simp [ho'], e'⟩
 · rintro ⟨o', ho', e'⟩
   rcases List.mem_append.1 ho' with h1 | h1
   · exact ⟨o', h1, e'⟩
   · simp at h1; subst h1; subst e'; exact (h.mem _).1 hm
theorem GK.new {hist : List (List OpP)} {a : Nat} {t : Int} {i q : Nat} {M M' U : List KeyP} {tx : List OpP} {o : OpP} (h : GK hist a t i q M U) (htx : hist[i]? = some tx) (ho : tx[q]? = some o) (hM : ∀ y, y ∈ M' ↔ y = o.key \/ y ∈ M) (k : KeyP) : k ∈ M' ↔ ∃ o' ∈ seenO hist i (q + 1), o'.key = k := by
 rw [hM, h.mem, seenO_op htx ho]
 constructor
 · rintro (e | ⟨o', ho', e⟩)
   · exact ⟨o, by simp, e.symm⟩
   · exact ⟨o', by simp [ho'], e⟩
 · rintro ⟨o', ho', e'⟩
   rcases List.mem_append.1 ho' with h1 | h1
   · exact .inr ⟨o', h1, e'⟩
   · simp at h1; subst h1; exact .inl e'.symm
theorem GK.no {hist : List (List OpP)} {a : Nat} {t : Int} {i q : Nat} {M M' U : List KeyP} {tx : List OpP} {o : OpP} (h : GK hist a t i q M U) (htx : hist[i]? = some tx) (ho : tx[q]? = some o) (h0 : (saidH hist o.key a t).size = 0) (hM : ∀ y, y ∈ M' ↔ y = o.key \/ y ∈ M) : GK hist a t i (q + 1) M' U := by
 refine ⟨h.new htx ho hM, h.nod, fun k => ?_⟩
 rw [h.out, hM]
 constructor
 · rintro ⟨h1, h2⟩; exact ⟨.inr h1, h2⟩
 · rintro ⟨rfl | h1, h2⟩
   · exact absurd h0 h2
   · exact ⟨h1, h2⟩
theorem GK.yes {hist : List (List OpP)} {a : Nat} {t : Int} {i q : Nat} {M M' U : List KeyP} {tx : List OpP} {o : OpP} (h : GK hist a t i q M U) (htx : hist[i]? = some tx) (ho : tx[q]? = some o) (hm : o.key ∉ M) (h0 : (saidH hist o.key a t).size ≠ 0) (hM : ∀ y, y ∈ M' ↔ y = o.key \/ y ∈ M) : GK hist a t i (q + 1) M' (U ++ [o.key]) := by
 refine ⟨h.new htx ho hM, List.nodup_append.2 ⟨h.nod, by simp, fun x hx y hy e => ?_⟩, fun k => ?_⟩
 · simp at hy; subst hy; subst e; exact hm ((h.out _).1 hx).1
 · rw [List.mem_append, h.out, hM]
   constructor
   · rintro (⟨h1, h2⟩ | e)
     · exact ⟨.inr h1, h2⟩
     · simp at e; subst e; exact ⟨.inl rfl, h0⟩
   · rintro ⟨rfl | h1, h2⟩
     · exact .inr (by simp)
     · exact .inl ⟨h1, h2⟩
theorem GK.all {hist : List (List OpP)} {a : Nat} {t : Int} {M U : List KeyP} (h : GK hist a t hist.length 0 M U) (k : KeyP) : k ∈ U ↔ (saidH hist k a t).size ≠ 0 := by
 rw [h.out, h.mem, seenO_all]
 exact ⟨fun h => h.2, fun h => ⟨said_seen h, h⟩⟩
def keyRE (hist : List (List OpP)) (known a t : Int) : Int := if askR hist.length known a ≠ 0 then askR hist.length known a else if timeB t then 0 else 1
theorem keyRE_0 {hist : List (List OpP)} {known a t : Int} (h : keyRE hist known a t = 0) : askR hist.length known a = 0 /\ timeB t = true := by
 unfold keyRE at h
 rcases Decidable.em (askR hist.length known a = 0) with e | e
 · rw [if_neg (by rw [e]; decide)] at h
   cases hb : timeB t with
   | true => exact ⟨e, rfl⟩
   | false => rw [hb] at h; exact absurd h (by decide)
 · rw [if_pos e] at h; exact absurd h e
def KeysR (hist : List (List OpP)) (a : Nat) (t : Int) (w : World) (e : Ending) (w' : World) : Prop :=
 ∃ (v : Value) (S : List KeyP), e = .returned (.tuple #[v, .int .i64 0]) /\ KeysIs hist a t S /\ w'.ownsRow w.heap.size 44 4 v S.length (flatKeys S) /\ Below w.heap.size w w'
structure KQ (hist : List (List OpP)) (a : Nat) (t : Int) (w : World) (mb i q c : Nat) (M U : List KeyP) (v : Value) (X : World) : Prop where
 kad : KadIs X mb c M
 gk : GK hist a t i q M U
 box : X.heap[mb + 1]? = some (.cells #[v] 41 (0, 0))
 row : X.ownsRow (mb + 2) 44 4 v U.length (flatKeys U)
 cnt : c <= i * 8 + q
 len : U.length <= i * 8 + q
 hm : w.heap.size <= mb
 be : Below w.heap.size w X
theorem KQ.below {hist : List (List OpP)} {a : Nat} {t : Int} {w : World} {mb i q c : Nat} {M U : List KeyP} {v : Value} {X Y : World} (h : KQ hist a t w mb i q c M U v X) (b : Below X.heap.size X Y) : KQ hist a t w mb i q c M U v Y :=
 ⟨h.kad.frame (F := fun _ => False) (Fr.new b) (fun e => e), h.gk, (b.block _ (lt_of_block h.box)).trans h.box, ownsRow_below h.row b, h.cnt, h.len, h.hm, h.be.trans (b.mono h.be.size)⟩
theorem KQ.put {hist : List (List OpP)} {a : Nat} {t : Int} {w : World} {mb i q c : Nat} {M U : List KeyP} {v : Value} {X Y : World} (h : KQ hist a t w mb i q c M U v X) (hg : X.grownBy Y (some mb)) {M' : List KeyP} (hk : KadIs Y mb (c + 1) M') (g' : GK hist a t i (q + 1) M' U) : KQ hist a t w mb i (q + 1) (c + 1) M' U v Y := by
 have hf : Fr (· = mb) X Y := Fr.ofGrown hg
 exact ⟨hk, g', hf.keeps h.box (by omega), ownsRow_frame h.row hf (fun g hg e => by omega), by have := h.cnt; omega, by have := h.len; omega, h.hm, h.be.trans (hf.below (fun k _ e => by have := h.hm; omega) h.be.size)⟩
theorem KQ.tx {hist : List (List OpP)} {a : Nat} {t : Int} {w : World} {mb i c : Nat} {M U : List KeyP} {v : Value} {X : World} {tx : List OpP} (h : KQ hist a t w mb i tx.length c M U v X) (htx : hist[i]? = some tx) (h8 : tx.length <= 8) : KQ hist a t w mb (i + 1) 0 c M U v X :=
 ⟨h.kad, h.gk.tx htx, h.box, h.row, by have := h.cnt; omega, by have := h.len; omega, h.hm, h.be⟩
theorem ownsRow_shape {w : World} {base : Nat} {e : TypeId} {size : Nat} {v : Value} {n : Nat} {xs : List Value} (h : w.ownsRow base e size v n xs) : ∃ a m c, v = .slice a m c := by
 rcases h.2 with ⟨rfl, _⟩ | ⟨g, cap, cur, rfl, _⟩
 · exact ⟨_, _, _, rfl⟩
 · exact ⟨_, _, _, rfl⟩
structure KA (w : World) (mb c : Nat) (M U : List KeyP) (v : Value) (X : World) : Prop where
 kad : KadIs X mb c M
 box : X.heap[mb + 1]? = some (.cells #[v] 41 (0, 0))
 row : X.ownsRow (mb + 2) 44 4 v U.length (flatKeys U)
 be : Below w.heap.size w X
theorem KQ.app {hist : List (List OpP)} {a : Nat} {t : Int} {w : World} {mb i q c : Nat} {M U : List KeyP} {v v' : Value} {X W6 : World} {U' : List KeyP} (h : KQ hist a t w mb i q c M U v X) (hB : Below (mb + 2) X W6) (hrow : W6.ownsRow (mb + 2) 44 4 v' U'.length (flatKeys U')) : KA w mb c M U' v' (W6.setCell ⟨mb + 1, 0, none⟩ v') := by
 have hf : Fr (· = mb + 1) W6 (W6.setCell ⟨mb + 1, 0, none⟩ v') := Fr.setCell (F := (· = mb + 1)) (Fr.refl _ W6) (p := ⟨mb + 1, 0, none⟩) (fun _ => rfl) v'
 have hbox := (hB.block (mb + 1) (by omega)).trans h.box
 refine ⟨(h.kad.frame (Fr.ofBelow hB) (by omega)).frame hf (by omega), ?_, ownsRow_frame hrow hf (fun g hg e => by omega), (h.be.trans (hB.mono (by have := h.hm; omega))).trans (hf.below (fun k _ e => by have := h.hm; omega) (by have := h.be.size; have := hB.size; omega))⟩
 have := block_set hbox 0 v'
 simpa using this
theorem KQ.yes {hist : List (List OpP)} {a : Nat} {t : Int} {w : World} {mb i q c : Nat} {M U : List KeyP} {v v' : Value} {X W7 Y : World} {M' : List KeyP} {k : KeyP} (h : KQ hist a t w mb i q c M U v X) (hA : KA w mb c M (U ++ [k]) v' W7) (hg : W7.grownBy Y (some mb)) (hk : KadIs Y mb (c + 1) M') (g' : GK hist a t i (q + 1) M' (U ++ [k])) : KQ hist a t w mb i (q + 1) (c + 1) M' (U ++ [k]) v' Y := by
 have hf : Fr (· = mb) W7 Y := Fr.ofGrown hg
 exact ⟨hk, g', hf.keeps hA.box (by omega), ownsRow_frame hA.row hf (fun g hg e => by omega), by have := h.cnt; omega, by have := h.len; rw [List.length_append]; simp; omega, h.hm, hA.be.trans (hf.below (fun k _ e => by have := h.hm; omega) hA.be.size)⟩
section
variable {F : Nat -> Prop} {rb : Nat} {hist : List (List OpP)} {known : Int}
set_option maxRecDepth 100000 in
theorem rpkeys_bad (a t : Int) (w : World) (h : RP F w rb hist known) (hb : keyRE hist known a t ≠ 0) :
  Calls Tryz.prog 62 #[.pointer (some ⟨rb, 0, none⟩), .int .i64 a, .int .i64 t] w fun e w' => e = .returned (.tuple #[.slice none 0 0, .int .i64 (keyRE hist known a t)]) /\ w = w' := by
 have hA := rpask_any a w h
 have hT := rtimed_any t w
 by_cases ha : askR hist.length known a = 0
 · have ht : timeB t = false := by
    cases hk : timeB t with
    | false => rfl
    | true => exact absurd (by unfold keyRE; rw [if_neg (by rw [ha]; decide), if_pos hk]) hb
   have e : keyRE hist known a t = 1 := by unfold keyRE; rw [if_neg (by rw [ha]; decide), ht]; rfl
   rw [e]
   rw [ha] at hA
   rw [ht] at hT
   have HA := Lib.hid hA
   have HT := Lib.hid hT
   clear hA hT ha ht e hb h
   go_enter Tryz.func62, Tryz.ntmps62
   go_wp2_with fail
   refine HA.out.mono ?_
   rintro e w1 ⟨rfl, rfl⟩
   go_wp2_with fail
   refine HT.out.mono ?_
   rintro e w1 ⟨rfl, rfl⟩
   go_wp2_with fail
   go_ret2
   exact ⟨rfl, rfl⟩
 · have e : keyRE hist known a t = askR hist.length known a := by unfold keyRE; rw [if_pos ha]
   rw [e]
   obtain ⟨n, hn⟩ : ∃ n, n = askR hist.length known a := ⟨_, rfl⟩
   rw [<- hn] at hA ha ⊢
   have HA := Lib.hid hA
   have n1 : (n == 0) = false := by simpa using ha
   have n2 : (n != 0) = true := by simpa using ha
   clear hA hT ha e hb h hn
   go_enter Tryz.func62, Tryz.ntmps62
   go_wp2_with fail
   refine HA.out.mono ?_
   rintro e w1 ⟨rfl, rfl⟩
   go_wp2_with fail
   go_ret2
   exact ⟨rfl, rfl⟩
set_option maxRecDepth 100000 in
set_option maxHeartbeats 8000000 in
theorem rpkeys_ok (a : Nat) (t : Int) (w : World) (h : RP F w rb hist known) (hb : keyRE hist known a t = 0) :
  Calls Tryz.prog 62 #[.pointer (some ⟨rb, 0, none⟩), .int .i64 (a : Nat), .int .i64 t] w (KeysR hist a t w) := by
 have hmm := @run_makeMap Tryz.prog
 obtain ⟨e1, e2⟩ := keyRE_0 hb
 have hA := rpask_any a w h
 rw [e1] at hA
 have hT := rtimed_any t w
 rw [e2] at hT
 obtain ⟨q1, q2, q3⟩ := askR_0 e1
 have hah : a <= hist.length := by omega
 obtain ⟨ao, c, ⟨c0, c1⟩, ⟨hc1, hc2⟩, hget⟩ := h.get
 have hl := h.lt
 have hlen := h.len
 unfold maxLen at hc2
 have HG := Lib.hid hget
 have HOK := Lib.hid h.ok
 have HP := Lib.hid h
 obtain ⟨mb, hmb⟩ : ∃ mb, mb = w.heap.size := ⟨_, rfl⟩
 obtain ⟨W2, hW2⟩ : ∃ W2, W2 = (w.alloc (.map #[] 0)).alloc (.cells #[.slice none 0 0] 41) := ⟨_, rfl⟩
 have hB2 : Below w.heap.size w W2 := by rw [hW2]; exact ((Below.refl _ _).alloc (Nat.le_refl _) _).alloc (by simp) _
 have ho : (w.alloc (.map #[] 0)).ownsMap Tryz.prog 44 boolR mb 0 (.map []) := by rw [hmb]; exact World.ownsMap_made _ _ _ _
 have hQ : KQ hist a t w mb 0 0 0 [] [] (.slice none 0 0) W2 := by
  refine ⟨⟨List.nodup_nil, (fun _ h => by cases h), _, owns_frame (F := fun _ => False) ho (by rw [hW2]; exact (Fr.refl _ _).alloc _) (fun e => e), mapOf_nil⟩, GK.zero _ _ _, ?_, World.ownsRow_nil _ _ _ _, Nat.zero_le _, Nat.zero_le _, by omega, hB2⟩
  rw [hW2, hmb]
  have := block_alloc_new (w.alloc (.map #[] 0)) (.cells #[.slice none 0 0] 41)
  simpa using this
 have HA := Lib.hid hA
 have HT := Lib.hid hT
 have HW2 := Lib.hid hW2
 have HMB := Lib.hid hmb
 have HQ := Lib.hid hQ
 clear h hA hT hget hb e1 e2 q1 q2 q3 c1 hW2 hmb hB2 ho hQ
 go_enter Tryz.func62, Tryz.ntmps62
 go_wp2_with fail
 refine HA.out.mono ?_
 rintro e w1 ⟨rfl, rfl⟩
 go_wp2_with fail
 refine HT.out.mono ?_
 rintro e w1 ⟨rfl, rfl⟩
 go_wp2_with fail
 rw [<- HW2.out, <- HMB.out]
 go_loopw [30] (fun vi X => ∃ (i cc : Nat) (M U : List KeyP) (v : Value), i <= hist.length /\ vi = .int .i64 i /\ KQ hist a t w1 mb i 0 cc M U v X) (fun vi _ => hist.length - (intOf vi).toNat)
 case atStart => exact ⟨0, 0, [], [], _, Nat.zero_le _, rfl, HQ.out⟩
 case round =>
  obtain ⟨i, cc, M, U, v, hi, rfl, hq⟩ := hrel
  have HQ1 := Lib.hid hq
  clear hq
  by_cases hlt : i < hist.length
  · obtain ⟨tx, htx⟩ : ∃ tx, hist[i]? = some tx := ⟨_, List.getElem?_eq_getElem hlt⟩
    obtain ⟨b0, b, cap, rfl, hb0, hc, hbb, ho⟩ := HG.out i tx htx
    have hokt := okL_iff.1 (HOK.out tx (List.mem_of_getElem? htx))
    have ht8 : tx.length <= 8 := hokt.1.2
    have c2 := below_cell HQ1.out.be hb0 hc
    have hb02 : b0 < wr.heap.size := Nat.lt_of_lt_of_le hb0 HQ1.out.be.size
    have i0 : (0 : Int) <= (i : Int) := by omega
    have i1 : (i : Int) < (hist.length : Int) := by omega
    have HO := Lib.hid ho
    have HTX := Lib.hid htx
    have HOKT := Lib.hid hokt
    clear hc ho htx hokt
    go_wp2_with fail
    go_loopw [36] (fun vi X => ∃ (q cc : Nat) (M U : List KeyP) (v : Value), q <= tx.length /\ vi = .int .i64 q /\ KQ hist a t w1 mb i q cc M U v X) (fun vi _ => tx.length - (intOf vi).toNat)
    case atStart => exact ⟨0, cc, M, U, v, Nat.zero_le _, rfl, HQ1.out⟩
    case round =>
     clear HQ1 c2
     obtain ⟨q, cc, M, U, v, hq, rfl, hQ⟩ := hrel
     have HQ2 := Lib.hid hQ
     clear hQ
     by_cases hqt : q < tx.length
     · obtain ⟨bq, f, n, o1, sx, m, x1, x2, u, g1, e1, hbl, d0, d1, d2, d3, d4, d5, d6⟩ := opsAt_get (HO.out.below HQ2.out.be) hqt
       cases e1
       simp only [Nat.zero_add] at d0 d1 d2 d3 d4 d5 d6
       have hkb : keyB ⟨n, o1, sx, m⟩ = true := op_key (List.all_eq_true.1 HOKT.out.2 _ (List.mem_of_getElem? g1.out))
       obtain ⟨W4, hW4⟩ : ∃ W4, W4 = wr.alloc (.cells #[.int .i64 n, .int .i64 o1, .string sx, .int .i64 m, .int .i64 x1, .int .i64 x2, .string u] 70) := ⟨_, rfl⟩
       have hB4 : Below wr.heap.size wr W4 := by rw [hW4]; exact (Below.refl _ _).alloc (Nat.le_refl _) _
       have hQ4 := HQ2.out.below hB4
       have hpb : W4.heap[wr.heap.size]? = some (.cells #[.int .i64 n, .int .i64 o1, .string sx, .int .i64 m, .int .i64 x1, .int .i64 x2, .string u] 70 (0, 0)) := by rw [hW4]; exact block_alloc_new _ _
       obtain ⟨p, hp⟩ : ∃ p, p = wr.heap.size := ⟨_, rfl⟩
       rw [<- hp] at hpb
       have k0 : W4.cell? ⟨p, 0, none⟩ = some (.int .i64 n) := block_cell hpb 0
       have k1 : W4.cell? ⟨p, 1, none⟩ = some (.int .i64 o1) := block_cell hpb 1
       have k2 : W4.cell? ⟨p, 2, none⟩ = some (.string sx) := block_cell hpb 2
       have k3 : W4.cell? ⟨p, 3, none⟩ = some (.int .i64 m) := block_cell hpb 3
       have hpl : p < W4.heap.size := lt_of_block hpb
       have hlook := kad_look hQ4.kad hkb
       have qq0 : (0 : Int) <= (q : Int) := by omega
       have qq1 : (q : Int) < (tx.length : Int) := by omega
       have hmbl : mb + 1 < p := by have := lt_of_block HQ2.out.box; omega
       have HRL := Lib.hid (fun (r : Nat) (hr : v.ownBlock = some r) => show r < p from by rw [hp]; exact (HQ2.out.row.lt r hr).2)
       have HKB := Lib.hid hkb
       have HW4 := Lib.hid hW4
       have HQ4 := Lib.hid hQ4
       have HPB := Lib.hid hpb
       have HPE := Lib.hid hp
       have hcc : cc <= 1208 := by have := HQ2.out.cnt; omega
       have hUl : U.length <= 1208 := by have := HQ2.out.len; omega
       clear hkb hW4 hB4 hQ4 hpb hp HQ2
       by_cases hm : (⟨n, o1, sx, m⟩ : KeyP) ∈ M
       · rw [decide_eq_true hm] at hlook
         obtain ⟨D, hown, hD⟩ := HQ4.out.kad.own
         obtain ⟨M', n', o', hD', hm'⟩ := kad_put HQ4.out.kad.nod HQ4.out.kad.ok hD ⟨n, o1, sx, m⟩ HKB.out
         have HD' := Lib.hid hD'
         have HN' := Lib.hid n'
         have HO' := Lib.hid o'
         have HMM := Lib.hid hm'
         have HOW := Lib.hid hown
         have HM := Lib.hid hm
         clear hD hD' n' o' hm' hown hm
         go_upto_region 14 with fail
         rw [<- HW4.out, <- HPE.out]
         go_wp2_with (at_mapUpdate; refine wpList_mapUpdate_own _ rfl _ _ _ 207 rfl 44 4 keyLaw Tryz.underlying207 boolR mb cc D rfl HOW.out (by unfold maxLen; omega) _ _ _ rfl rfl (keyOf_key (k := ⟨n, o1, sx, m⟩) HKB.out) boolD [] rfl ?_; intro w9 hown9 hgrow9)
         exact ⟨⟨q + 1, cc + 1, M', U, v, by omega, by go_num, HQ4.out.put hgrow9 ⟨HN'.out, HO'.out, _, hown9, HD'.out⟩ (HQ4.out.gk.old (o := ⟨⟨n, o1, sx, m⟩, x1, x2, u⟩) HTX.out g1.out HM.out HMM.out)⟩, by simp [intOf]; omega⟩
       · rw [decide_eq_false hm] at hlook
         have hcs := rpsaid_any ⟨n, o1, sx, m⟩ a t W4 (HP.out.below HQ4.out.be) hah
         obtain ⟨x, hx⟩ : ∃ x, x = saidH hist ⟨n, o1, sx, m⟩ a t := ⟨_, rfl⟩
         rw [<- hx] at hcs
         have HX := Lib.hid hx
         have HM := Lib.hid hm
         clear hx hm
         by_cases h0 : x.size = 0
         · have hv1 := empty_true h0
           have hv2 : (!x.toList.isEmpty) = false := by rw [hv1]; rfl
           have HZ := Lib.hid h0
           clear h0
           go_upto_region 14 with fail
           rw [<- HW4.out, <- HPE.out]
           go_wp2_with (first
            | (go_at_call 63; (with_reducible refine hcs.mono ?_); rintro e w5 ⟨rfl, b5⟩; have HQ5 := Lib.hid (HQ4.out.below b5); have j0 := below_cell b5 hpl k0; have j1 := below_cell b5 hpl k1; have j2 := below_cell b5 hpl k2; have j3 := below_cell b5 hpl k3; have hpl5 := Nat.lt_of_lt_of_le hpl b5.size; obtain ⟨D, hown, hD⟩ := HQ5.out.kad.own; obtain ⟨M', n', o', hD', hm'⟩ := kad_put HQ5.out.kad.nod HQ5.out.kad.ok hD ⟨n, o1, sx, m⟩ HKB.out; have HD' := Lib.hid hD'; have HN' := Lib.hid n'; have HO' := Lib.hid o'; have HMM := Lib.hid hm'; have HOW := Lib.hid hown; clear b5 hD hD' n' o' hm' hown)
            | (at_mapUpdate; refine wpList_mapUpdate_own _ rfl _ _ _ 207 rfl 44 4 keyLaw Tryz.underlying207 boolR mb cc D rfl HOW.out (by unfold maxLen; omega) _ _ _ rfl rfl (keyOf_key (k := ⟨n, o1, sx, m⟩) HKB.out) boolD [] rfl ?_; intro w9 hown9 hgrow9))
           exact ⟨⟨q + 1, cc + 1, M', U, v, by omega, by go_num, HQ5.out.put hgrow9 ⟨HN'.out, HO'.out, _, hown9, HD'.out⟩ (HQ5.out.gk.no (o := ⟨⟨n, o1, sx, m⟩, x1, x2, u⟩) HTX.out g1.out (by show (saidH hist ⟨n, o1, sx, m⟩ a t).size = 0; rw [<- HX.out]; exact HZ.out) HMM.out)⟩, by simp [intOf]; omega⟩
         · have hv1 := empty_false h0
           have hv2 : (!x.toList.isEmpty) = true := by rw [hv1]; rfl
           have HZ := Lib.hid h0
           clear h0
           go_upto_region 14 with fail
           rw [<- HW4.out, <- HPE.out]
           go_wp2_with (first
            | (go_at_call 63; (with_reducible refine hcs.mono ?_); rintro e w5 ⟨rfl, b5⟩; have HQ5 := Lib.hid (HQ4.out.below b5); have j0 := below_cell b5 hpl k0; have j1 := below_cell b5 hpl k1; have j2 := below_cell b5 hpl k2; have j3 := below_cell b5 hpl k3; have hpl5 := Nat.lt_of_lt_of_le hpl b5.size; have HROW := Lib.hid HQ5.out.row; have bx := block_cell HQ5.out.box 0; have bl := lt_of_block HQ5.out.box; have HPB5 := Lib.hid ((b5.block _ hpl).trans HPB.out); have HPL5 := Lib.hid hpl5; clear b5)
            | (at_builtin; refine appKey rfl _ _ rfl (mb + 2) _ U rfl (HROW.out.alloc _) w5.heap.size ⟨n, o1, sx, m⟩ rfl (by simp) (by simp) (by simp) (by simp) (by omega) (by simp; omega) w5 ((Below.refl _ _).alloc (by omega) _) ?_; intro v' w6 hown6 hB6 hs6 hg6; obtain ⟨a6, n6, c6, hv6⟩ := ownsRow_shape hown6; subst hv6; have b6 := (hB6.block (mb + 1) (by omega)).trans HQ5.out.box; have bc := block_cell b6 0; have bf := block_free b6 0; have bl6 := lt_of_block b6; have P6 := (hg6.block p (by simp; omega) (fun e => by have := HRL.out p e.symm; omega)).trans (block_alloc HPB5.out _); have HKA := Lib.hid (HQ5.out.app hB6 hown6); have P7 := block_set_other P6 (p := ⟨mb + 1, 0, none⟩) (by show p ≠ mb + 1; omega) (.slice a6 n6 c6); obtain ⟨W7, hW7⟩ : ∃ W7, W7 = w6.setCell ⟨mb + 1, 0, none⟩ (.slice a6 n6 c6) := ⟨_, rfl⟩; rw [<- hW7] at HKA P7; have HW7 := Lib.hid hW7; have z0 := block_cell P7 0; have z1 := block_cell P7 1; have z2 := block_cell P7 2; have z3 := block_cell P7 3; have zl := lt_of_block P7; obtain ⟨D, hown, hD⟩ := HKA.out.kad.own; obtain ⟨M', n', o', hD', hm'⟩ := kad_put HKA.out.kad.nod HKA.out.kad.ok hD ⟨n, o1, sx, m⟩ HKB.out; have HD' := Lib.hid hD'; have HN' := Lib.hid n'; have HO' := Lib.hid o'; have HMM := Lib.hid hm'; have HOW := Lib.hid hown; clear hown6 hB6 hs6 hg6 b6 hW7 P6 P7 hD hD' n' o' hm' hown)
            | (rw [<- HW7.out])
            | (at_mapUpdate; refine wpList_mapUpdate_own _ rfl _ _ _ 207 rfl 44 4 keyLaw Tryz.underlying207 boolR mb cc D rfl HOW.out (by unfold maxLen; omega) _ _ _ rfl rfl (keyOf_key (k := ⟨n, o1, sx, m⟩) HKB.out) boolD [] rfl ?_; intro w9 hown9 hgrow9))
           exact ⟨⟨q + 1, cc + 1, M', U ++ [⟨n, o1, sx, m⟩], .slice a6 n6 c6, by omega, by go_num, HQ5.out.yes HKA.out hgrow9 ⟨HN'.out, HO'.out, _, hown9, HD'.out⟩ (HQ5.out.gk.yes (o := ⟨⟨n, o1, sx, m⟩, x1, x2, u⟩) HTX.out g1.out HM.out (by show (saidH hist ⟨n, o1, sx, m⟩ a t).size ≠ 0; rw [<- HX.out]; exact HZ.out) HMM.out)⟩, by simp [intOf]; omega⟩
     · obtain rfl : q = tx.length := by omega
       go_wp2_with fail
       exact ⟨⟨i + 1, cc, M, U, v, by omega, by go_num, HQ2.out.tx HTX.out ht8⟩, by simp [intOf]; omega⟩
  · obtain rfl : i = hist.length := by omega
    have bx := block_cell HQ1.out.box 0
    have bl := lt_of_block HQ1.out.box
    have hU : U.length < 4611686018427387904 := by have := HQ1.out.len; omega
    have hcs := rsortKeys_own (mb + 1) (mb + 2) v U wr HQ1.out.row bx (by omega) (by omega) HQ1.out.gk.nod hU
    go_wp2_with (go_at_call 116; (with_reducible refine hcs.mono ?_); rintro e w5 ⟨rfl, ⟨S, hS1, hS2, hS3, hS4⟩, b5⟩; have q5 := (b5.block (mb + 1) (by omega)).trans HQ1.out.box; have bx5 := block_cell q5 0; have bl5 := lt_of_block q5; have HS2 := Lib.hid hS2; have HS3 := Lib.hid hS3; have HS4 := Lib.hid hS4; have B5 := Lib.hid b5; clear b5 q5 hS1 hS2 hS3 hS4)
    go_ret2
    have hmm := HQ1.out.hm
    exact ⟨v, S, rfl, ⟨HS2.out, fun k => (HS3.out k).trans (HQ1.out.gk.all k)⟩, ownsRow_mono HS4.out (by omega), HQ1.out.be.trans (B5.out.mono (by omega))⟩
end
end Go.Proofs.YtflhpmgjehjjkaaGreatDoor
namespace Go.Proofs.YtflhpmgjehjjkaaGreatDoor
open Go.RowKit Go.Deep Go.Shelf Go.Sort Go.Maps
def EverR (hist : List (List OpP)) (k : KeyP) (n m : Nat) (f t : Int) (w : World) (e : Ending) (w' : World) : Prop :=
 ∃ (v : Value) (S : List ByteArray), e = .returned (.tuple #[v, .int .i64 0]) /\ EversIs hist k n m f t S /\ w'.ownsRow w.heap.size 9 1 v S.length (S.map Value.string) /\ Below w.heap.size w w'
theorem said_lenR {hist : List (List OpP)} (hok : ∀ l ∈ hist, l.all opB = true) (k : KeyP) (n : Nat) (t : Int) : (saidH hist k n t).size <= 100 := by
 have : ∀ (l : List OpP) (x : ByteArray), l.all opB = true -> x.size <= 100 -> (saidL l k t x).size <= 100 := fun l => by
  induction l with
  | nil => intro x _ h; exact h
  | cons o l ih =>
    intro x ha h
    simp only [List.all_cons, Bool.and_eq_true] at ha
    unfold saidL
    rw [List.foldl_cons]
    refine ih _ ha.2 ?_
    split
    · have h3 : o.value.size = 0 \/ wordB o.value = true := by
       have := ha.1
       unfold opB at this
       simp only [Bool.and_eq_true, Bool.or_eq_true, decide_eq_true_eq] at this
       exact this.2.2
      rcases h3 with h3 | h3
      · omega
      · unfold wordB at h3
        simp only [Bool.and_eq_true, decide_eq_true_eq] at h3
        omega
    · exact h
 exact this _ _ (List.all_eq_true.2 fun o ho => by
  obtain ⟨l, hl, ho⟩ := List.mem_flatten.1 ho
  exact List.all_eq_true.1 (hok l (List.mem_of_mem_take hl)) o ho) (by decide)
section
variable {F : Nat -> Prop} {rb : Nat} {hist : List (List OpP)} {known : Int}
set_option maxRecDepth 100000 in
set_option maxHeartbeats 8000000 in
theorem rpever_ok (k : KeyP) (n m : Nat) (f t : Int) (w : World) (h : RP F w rb hist known) (hs : k.word.size <= maxLen) (hb : everRE hist known k n m f t = 0) :
  Calls Tryz.prog 86 #[.pointer (some ⟨rb, 0, none⟩), .agg #[.int .i64 k.kind, .int .i64 k.a, .string k.word, .int .i64 k.b], .int .i64 (n : Nat), .int .i64 (m : Nat), .agg #[.int .i64 f, .int .i64 t]] w (EverR hist k n m f t w) := by
 obtain ⟨kk, ka, kw, kb⟩ := k
 obtain ⟨i0, hi, hz0, hz1, hz2⟩ := info_parts infoInt
 have hmm := @run_makeMap Tryz.prog
 obtain ⟨W0, hW0⟩ : ∃ W0, W0 = ((w.alloc (.cells #[.int .i64 kk, .int .i64 ka, .string kw, .int .i64 kb] 44)).alloc (.cells #[.int .i64 f, .int .i64 t] 68)).alloc (.cells #[.int .i64 (n : Nat), .int .i64 (m : Nat)] 3) := ⟨_, rfl⟩
 have hB0 : Below w.heap.size w W0 := by rw [hW0]; exact (((Below.refl _ _).alloc (Nat.le_refl _) _).alloc (by simp) _).alloc (by simp; omega) _
 have hA := rpask_any n W0 (h.below hB0)
 have hAb := rpask_any m W0 (h.below hB0)
 have hK := rkey_any kk ka kb kw W0 hs
 have hR := fun X => rright_any f t X
 unfold everRE at hb
 have ha0 : askR hist.length known n = 0 := by
  rcases Decidable.em (askR hist.length known n = 0) with e | e
  · exact e
  · rw [if_pos e] at hb; exact hb
 rw [if_neg (by rw [ha0]; decide)] at hb
 have hb0 : askR hist.length known m = 0 := by
  rcases Decidable.em (askR hist.length known m = 0) with e | e
  · exact e
  · rw [if_pos e] at hb; exact hb
 rw [if_neg (by rw [hb0]; decide)] at hb
 have hnm : n <= m := by
  rcases Nat.lt_or_ge m n with e | e
  · rw [if_pos (by omega)] at hb; exact absurd hb (by decide)
  · exact e
 rw [if_neg (by omega)] at hb
 have hkr : keyB ⟨kk, ka, kw, kb⟩ = true /\ rightB f t = true := by
  cases hx : keyB ⟨kk, ka, kw, kb⟩ && rightB f t with
  | true => simpa using hx
  | false => rw [hx] at hb; exact absurd hb (by decide)
 obtain ⟨q1, q2, q3⟩ := askR_0 hb0
 have hmh : m <= hist.length := by omega
 rw [ha0] at hA
 rw [hb0] at hAb
 rw [hkr.1] at hK
 rw [hkr.2] at hR
 have hrb := rightB_bounds hkr.2
 have hcb : W0.heap[w.heap.size + 1 + 1]? = some (.cells #[.int .i64 (n : Nat), .int .i64 (m : Nat)] 3 (0, 0)) := by rw [hW0]; exact new_blk _ _ _ _ (by simp)
 have hkb : W0.heap[w.heap.size]? = some (.cells #[.int .i64 kk, .int .i64 ka, .string kw, .int .i64 kb] 44 (0, 0)) := by rw [hW0]; exact block_alloc (block_alloc (block_alloc_new _ _) _) _
 have hsb : W0.heap[w.heap.size + 1]? = some (.cells #[.int .i64 f, .int .i64 t] 68 (0, 0)) := by rw [hW0]; exact block_alloc (new_blk _ _ _ _ (by simp)) _
 have c0 : W0.cell? ⟨w.heap.size + 1 + 1, 0, none⟩ = some (.int .i64 (n : Nat)) := block_cell hcb 0
 have c1 : W0.cell? ⟨w.heap.size + 1 + 1, 1, none⟩ = some (.int .i64 (m : Nat)) := block_cell hcb 1
 have k0 : W0.cell? ⟨w.heap.size, 0, none⟩ = some (.int .i64 kk) := block_cell hkb 0
 have k1 : W0.cell? ⟨w.heap.size, 1, none⟩ = some (.int .i64 ka) := block_cell hkb 1
 have k2 : W0.cell? ⟨w.heap.size, 2, none⟩ = some (.string kw) := block_cell hkb 2
 have k3 : W0.cell? ⟨w.heap.size, 3, none⟩ = some (.int .i64 kb) := block_cell hkb 3
 have s0 : W0.cell? ⟨w.heap.size + 1, 0, none⟩ = some (.int .i64 f) := block_cell hsb 0
 have s1 : W0.cell? ⟨w.heap.size + 1, 1, none⟩ = some (.int .i64 t) := block_cell hsb 1
 have hsz : W0.heap.size = w.heap.size + 3 := by rw [hW0]; simp
 have hq0 : w.heap.size < W0.heap.size := by omega
 have hq1 : w.heap.size + 1 < W0.heap.size := by omega
 have hq2 : w.heap.size + 1 + 1 < W0.heap.size := by omega
 have hP0 := h.below hB0
 have hfl := flatten_len hist h.ok
 have hlen := h.len
 have hsl := spK_len hist.flatten ⟨kk, ka, kw, kb⟩
 have HOKH := Lib.hid (fun (l : List OpP) (hl : l ∈ hist) => (okL_iff.1 (h.ok l hl)).2)
 have hnm' : (n : Int) <= (m : Int) := by omega
 have hm150 : m <= 150 := by omega
 have HA := Lib.hid hA
 have HAB := Lib.hid hAb
 have HK := Lib.hid hK
 have HR := Lib.hid hR
 have HB0 := Lib.hid hB0
 have HP0 := Lib.hid hP0
 have HKB := Lib.hid hkb
 have HSB := Lib.hid hsb
 have HW0 := Lib.hid hW0
 clear hA hAb hK hR hB0 hW0 h hsz hb ha0 hb0 hkr hcb hkb hsb hP0
 go_enter Tryz.func86, Tryz.ntmps86
 go_wp2_with fail
 rw [<- HW0.out]
 refine wp_loop_rounds 3 ?_
 rw [rounds_succ]
 go_wp2_with fail
 refine HA.out.mono ?_
 rintro e w1 ⟨rfl, rfl⟩
 go_wp2_with fail
 rw [rounds_succ]
 go_wp2_with fail
 refine HAB.out.mono ?_
 rintro e w1 ⟨rfl, rfl⟩
 go_wp2_with fail
 rw [rounds_succ]
 go_wp2_with fail
 refine HK.out.mono ?_
 rintro e w2 ⟨rfl, b2⟩
 have s0 := below_cell b2 hq1 s0
 have s1 := below_cell b2 hq1 s1
 have hq12 := Nat.lt_of_lt_of_le hq1 b2.size
 have B2 := Lib.hid b2
 clear b2
 go_wp2_with fail
 refine (HR.out _).mono ?_
 rintro e w3 ⟨rfl, b3⟩
 have HB13 := Lib.hid (below_trans B2.out B2.out.size b3)
 clear b3 s0 s1 c0 c1 k0 k1 k2 k3 HK HR HA HAB
 go_wp2_with fail
 obtain ⟨mb, hmb⟩ : ∃ mb, mb = w3.heap.size := ⟨_, rfl⟩
 obtain ⟨W4, hW4⟩ : ∃ W4, W4 = w3.alloc (.map #[] 0) := ⟨_, rfl⟩
 have ho4 : W4.ownsMap Tryz.prog 9 boolR mb 0 (.map []) := by rw [hW4, hmb]; exact World.ownsMap_made _ _ _ _
 have b34 : Below w3.heap.size w3 W4 := by rw [hW4]; exact (Below.refl _ _).alloc (Nat.le_refl _) _
 have hP3 := HP0.out.below HB13.out
 have hkb3 := (HB13.out.block _ hq0).trans HKB.out
 have hsb3 := (HB13.out.block _ hq1).trans HSB.out
 have hb03 := HB0.out.trans (HB13.out.mono HB0.out.size)
 have hq03 := lt_of_block hkb3
 have hq13 := lt_of_block hsb3
 rw [<- hW4, <- hmb]
 have hEm : ∀ e, isEnd hist.flatten ⟨kk, ka, kw, kb⟩ e -> e ∈ sortI (endsL (spK hist.flatten ⟨kk, ka, kw, kb⟩)) := fun e he => mem_ends he
 have hE24 : (sortI (endsL (spK hist.flatten ⟨kk, ka, kw, kb⟩))).length <= 2400 := by rw [sortI_length, endsL_length]; omega
 have hCE : ∀ X, Below w3.heap.size w3 X -> Calls Tryz.prog 132 #[.pointer (some ⟨rb, 0, none⟩), .agg #[.int .i64 kk, .int .i64 ka, .string kw, .int .i64 kb]] X fun e w' => ∃ v, e = .returned v /\ w'.ownsRow X.heap.size 3 1 v (sortI (endsL (spK hist.flatten ⟨kk, ka, kw, kb⟩))).length ((sortI (endsL (spK hist.flatten ⟨kk, ka, kw, kb⟩))).map (Value.int .i64)) /\ Below X.heap.size X w' := fun X hX => by
  have := rpends_any ⟨kk, ka, kw, kb⟩ X (hP3.below hX)
  rw [show (endsL (spK hist.flatten ⟨kk, ka, kw, kb⟩)).length = (sortI (endsL (spK hist.flatten ⟨kk, ka, kw, kb⟩))).length from (sortI_length _).symm] at this
  exact this
 generalize sortI (endsL (spK hist.flatten ⟨kk, ka, kw, kb⟩)) = E at *
 have HO4 := Lib.hid ho4
 have B34 := Lib.hid b34
 have HMB := Lib.hid hmb
 have HP3 := Lib.hid hP3
 have HKB3 := Lib.hid hkb3
 have HSB3 := Lib.hid hsb3
 have HB03 := Lib.hid hb03
 have HEM := Lib.hid hEm
 have HCE := Lib.hid hCE
 clear hmb hW4 ho4 b34 hP3 hkb3 hsb3 hb03 hEm hCE hfl hsl
 go_loopw [16] (fun v X => ∃ i : Nat, n <= i /\ i <= m + 1 /\ v = .int .i64 i /\ ∃ (c : Nat) (M : List ByteArray), HadIs X mb c M /\ (∀ x, x ∈ M ↔ evB hist ⟨kk, ka, kw, kb⟩ (E ++ [f]) f t n i 0 x) /\ c <= i * 2401 /\ Below w3.heap.size w3 X) (fun v _ => m + 1 - (intOf v).toNat)
 case atStart => exact ⟨n, Nat.le_refl _, by omega, rfl, 0, [], ⟨List.nodup_nil, _, HO4.out, mapOf_nil⟩, fun x => ⟨(fun h => by cases h), fun h => absurd h (evB_zero x)⟩, Nat.zero_le _, B34.out⟩
 case round =>
  obtain ⟨i, hi1, hi2, rfl, c, M, hM, hmem, hc, hb⟩ := hrel
  by_cases hlt : i <= m
  · have ii0 : (0 : Int) <= (i : Int) := by omega
    have ii1 : (i : Int) <= (m : Int) := by omega
    have kxb := (hb.block _ hq03).trans HKB3.out
    have sxb := (hb.block _ hq13).trans HSB3.out
    have k0 : wr.cell? ⟨w.heap.size, 0, none⟩ = some (.int .i64 kk) := block_cell kxb 0
    have k1 : wr.cell? ⟨w.heap.size, 1, none⟩ = some (.int .i64 ka) := block_cell kxb 1
    have k2 : wr.cell? ⟨w.heap.size, 2, none⟩ = some (.string kw) := block_cell kxb 2
    have k3 : wr.cell? ⟨w.heap.size, 3, none⟩ = some (.int .i64 kb) := block_cell kxb 3
    have s0 : wr.cell? ⟨w.heap.size + 1, 0, none⟩ = some (.int .i64 f) := block_cell sxb 0
    have hkl := lt_of_block kxb
    have hsl := lt_of_block sxb
    have CE := Lib.hid fun X (hX : Below wr.heap.size wr X) => HCE.out X (below_trans hb hb.size hX)
    have hmbl : mb < wr.heap.size := by obtain ⟨D, ho, _⟩ := hM.own; exact ho.lt
    have HM := Lib.hid hM
    have HMEM := Lib.hid hmem
    have HB := Lib.hid hb
    clear kxb sxb hM hmem hb
    go_upto_region 16 with fail
    go_cut [60, 61, 62] (fun v l z X => (∃ ao ca, v = .slice ao (E.length + 1) ca /\ IntsIn X ao (E ++ [f]) /\ ∀ b, ao = some ⟨b, 0, none⟩ -> b ≠ mb) /\ l = .int .i64 ((E.length : Int) + 1) /\ z = .int .i64 0 /\ Below wr.heap.size wr X)
    case first =>
     have s0' := s0
     have hA1 : Below wr.heap.size wr (wr.alloc (.cells #[.int .i64 f] 3)).drew := ((Below.refl _ _).alloc (Nat.le_refl _) _).drew
     have hA3 : wr.heap.size < ((wr.alloc (.cells #[.int .i64 f] 3)).drew).heap.size := by show wr.heap.size < (wr.heap.push _).size; simp
     have hA2 : wr.heap.size <= ((wr.alloc (.cells #[.int .i64 f] 3)).drew).heap.size := Nat.le_of_lt hA3
     have hA4 : ((wr.alloc (.cells #[.int .i64 f] 3)).drew).cell? ⟨wr.heap.size, 0, none⟩ = some (.int .i64 f) := new_cell wr _ _ _ rfl 0 _ rfl
     have HA1 := Lib.hid hA1
     have HA4 := Lib.hid hA4
     clear hA1 hA4
     go_region_held3 (fun X => X.cell? ⟨w.heap.size, 0, none⟩ = some (.int .i64 kk) /\ X.cell? ⟨w.heap.size, 1, none⟩ = some (.int .i64 ka) /\ X.cell? ⟨w.heap.size, 2, none⟩ = some (.string kw) /\ X.cell? ⟨w.heap.size, 3, none⟩ = some (.int .i64 kb) /\ X.cell? ⟨w.heap.size + 1, 0, none⟩ = some (.int .i64 f))
      (first | exact ⟨k0, k1, k2, k3, s0⟩ | exact hS6 | exact ⟨below_cell (B6.alloc S6 _) hkl k0, below_cell (B6.alloc S6 _) hkl k1, below_cell (B6.alloc S6 _) hkl k2, below_cell (B6.alloc S6 _) hkl k3, below_cell (B6.alloc S6 _) hsl s0'⟩ | exact ⟨below_cell ((Below.refl _ _).drew.alloc (Nat.le_refl _) _) hkl k0, below_cell ((Below.refl _ _).drew.alloc (Nat.le_refl _) _) hkl k1, below_cell ((Below.refl _ _).drew.alloc (Nat.le_refl _) _) hkl k2, below_cell ((Below.refl _ _).drew.alloc (Nat.le_refl _) _) hkl k3, below_cell ((Below.refl _ _).drew.alloc (Nat.le_refl _) _) hsl s0⟩ | exact hS7)
      (first
      | (go_at_call 132; (with_reducible refine (CE.out _ (Below.refl _ _).drew).mono ?_); rintro e w6 ⟨v6, rfl, own6, b6⟩; have B6 : Below wr.heap.size wr w6 := (Below.refl _ _).drew.trans b6; have O6 := ownsRow_mono own6 (show wr.heap.size <= wr.drew.heap.size from Nat.le_refl _); have S6 : wr.heap.size <= w6.heap.size := B6.size; have C6 : ∀ j u, [Value.int .i64 f][j]? = some u -> (w6.alloc (.cells #[.int .i64 f] 3)).cell? ((⟨w6.heap.size, 0, none⟩ : Addr).add j) = some u := (fun j u hu => by rw [add_at]; match j, hu with | 0, hu => simp at hu; subst hu; simp); have hS6 := And.intro (below_cell B6 hkl k0) (And.intro (below_cell B6 hkl k1) (And.intro (below_cell B6 hkl k2) (And.intro (below_cell B6 hkl k3) (below_cell B6 hsl s0)))); clear own6 b6)
      | (go_at_call 132; (with_reducible refine (CE.out _ HA1.out).mono ?_); rintro e w6 ⟨v6, rfl, own6, b6⟩; have B6 : Below wr.heap.size wr w6 := HA1.out.trans (b6.mono hA2); have O6 := ownsRow_mono own6 hA2; have S6 : wr.heap.size < w6.heap.size := Nat.lt_of_lt_of_le hA3 b6.size; have C6 : ∀ j u, [Value.int .i64 f][j]? = some u -> w6.cell? ((⟨wr.heap.size, 0, none⟩ : Addr).add j) = some u := (fun j u hu => by rw [add_at]; match j, hu with | 0, hu => simp at hu; subst hu; exact below_cell b6 hA3 HA4.out); have hS6 := And.intro (below_cell B6 hkl k0) (And.intro (below_cell B6 hkl k1) (And.intro (below_cell B6 hkl k2) (And.intro (below_cell B6 hkl k3) (below_cell B6 hsl s0)))); clear own6 b6)
      | (refine step_append_own rfl _ _ 46 rfl wr.heap.size 3 i0 (.int .i64 0) 1 8 Tryz.underlying46 hi hz0 hz1 hz2 rfl (by decide) v6 E.length (E.map (Value.int .i64)) rfl (O6.alloc _) ⟨w6.heap.size, 0, none⟩ 1 1 [.int .i64 f] rfl rfl C6 (by simp [Value.oneCell']) (by unfold maxLen; omega) (by omega) (by simp; omega) ?_; intro v7 w7 hown7 hgrow7 _; have hown7' : w7.ownsRow wr.heap.size 3 1 v7 (E.length + 1) ((E ++ [f]).map (Value.int .i64)) := (by rw [List.map_append]; exact hown7); obtain ⟨ao7, c7, hv7, hin7⟩ := ownsRow_intsIn hown7'; rw [List.length_append, List.length_singleton] at hv7; subst hv7; have hne7 : ∀ b, ao7 = some ⟨b, 0, none⟩ -> b ≠ mb := (fun b e => (by subst e; have := (hown7.lt b rfl).1; omega)); have B7 := (B6.alloc S6 _).grown hgrow7 (by simp; omega) (fun q hq => (O6.lt q hq).1); have hS7 := And.intro (below_cell B7 hkl k0) (And.intro (below_cell B7 hkl k1) (And.intro (below_cell B7 hkl k2) (And.intro (below_cell B7 hkl k3) (below_cell B7 hsl s0)))))
      | (refine step_append_own rfl _ _ 46 rfl wr.heap.size 3 i0 (.int .i64 0) 1 8 Tryz.underlying46 hi hz0 hz1 hz2 rfl (by decide) v6 E.length (E.map (Value.int .i64)) rfl O6 ⟨wr.heap.size, 0, none⟩ 1 1 [.int .i64 f] rfl rfl C6 (by simp [Value.oneCell']) (by unfold maxLen; omega) (by omega) (by omega) ?_; intro v7 w7 hown7 hgrow7 _; have hown7' : w7.ownsRow wr.heap.size 3 1 v7 (E.length + 1) ((E ++ [f]).map (Value.int .i64)) := (by rw [List.map_append]; exact hown7); obtain ⟨ao7, c7, hv7, hin7⟩ := ownsRow_intsIn hown7'; rw [List.length_append, List.length_singleton] at hv7; subst hv7; have hne7 : ∀ b, ao7 = some ⟨b, 0, none⟩ -> b ≠ mb := (fun b e => (by subst e; have := (hown7.lt b rfl).1; omega)); have B7 := B6.grown hgrow7 (by omega) (fun q hq => (O6.lt q hq).1); have hS7 := And.intro (below_cell B7 hkl k0) (And.intro (below_cell B7 hkl k1) (And.intro (below_cell B7 hkl k2) (And.intro (below_cell B7 hkl k3) (below_cell B7 hsl s0))))))
     all_goals (go_wp2_with fail; go_meet; exact ⟨⟨_, _, rfl, hin7, hne7⟩, rfl, rfl, B7⟩)
    case rest =>
     obtain ⟨⟨ao, ca, rfl, hin, hne⟩, rfl, rfl, hbc⟩ := hcut
     have hM6 := HM.out.frame (F := fun _ => False) (Fr.new hbc) (fun e => e)
     have hb6 := below_trans HB.out HB.out.size hbc
     have hmb6 : mb < wc.heap.size := Nat.lt_of_lt_of_le hmbl hbc.size
     have HIN := Lib.hid hin
     have HNE := Lib.hid hne
     have HM6 := Lib.hid hM6
     have HB6 := Lib.hid hb6
     clear hin hne hbc hM6 hb6 k0 k1 k2 k3 s0 CE HM HB hmbl hkl hsl
     go_wp2_with fail
     go_loopw [62] (fun v X => ∃ j : Nat, j <= E.length + 1 /\ v = .int .i64 j /\ ∃ (c : Nat) (M : List ByteArray), HadIs X mb c M /\ (∀ x, x ∈ M ↔ evB hist ⟨kk, ka, kw, kb⟩ (E ++ [f]) f t n i j x) /\ c <= i * 2401 + j /\ Fr (· = mb) wc X) (fun v _ => E.length + 1 - (intOf v).toNat)
     case atStart => exact ⟨0, Nat.zero_le _, rfl, c, M, HM6.out, HMEM.out, by omega, Fr.refl _ _⟩
     case round =>
      obtain ⟨j, hj, rfl, c, M, hM, hmem, hc, hfr⟩ := hrel
      have hbX : Below w3.heap.size w3 wr := HB6.out.trans (hfr.below (B := w3.heap.size) (fun k _ e => by have := HMB.out; omega) HB6.out.size)
      by_cases hjl : j < E.length + 1
      · obtain ⟨e, he⟩ : ∃ e, (E ++ [f])[j]? = some e := ⟨_, List.getElem?_eq_getElem (by rw [List.length_append]; exact hjl)⟩
        obtain ⟨be, rfl, ce⟩ := HIN.out j e he
        have hbe := World.block_lt_of_cell? wc _ ce
        have ce := (World.cell?_of_block (a := ⟨be, j, none⟩) (hfr.block be hbe (HNE.out be rfl))).trans ce
        have hbe2 : be < wr.heap.size := Nat.lt_of_lt_of_le hbe hfr.size
        have kxb := (hbX.block _ hq03).trans HKB3.out
        have sxb := (hbX.block _ hq13).trans HSB3.out
        have k0 : wr.cell? ⟨w.heap.size, 0, none⟩ = some (.int .i64 kk) := block_cell kxb 0
        have k1 : wr.cell? ⟨w.heap.size, 1, none⟩ = some (.int .i64 ka) := block_cell kxb 1
        have k2 : wr.cell? ⟨w.heap.size, 2, none⟩ = some (.string kw) := block_cell kxb 2
        have k3 : wr.cell? ⟨w.heap.size, 3, none⟩ = some (.int .i64 kb) := block_cell kxb 3
        have s0 : wr.cell? ⟨w.heap.size + 1, 0, none⟩ = some (.int .i64 f) := block_cell sxb 0
        have s1 : wr.cell? ⟨w.heap.size + 1, 1, none⟩ = some (.int .i64 t) := block_cell sxb 1
        have hkl := lt_of_block kxb
        have hsl := lt_of_block sxb
        have j0 : (0 : Int) <= (j : Int) := by omega
        have j1 : (j : Int) < (E.length : Int) + 1 := by omega
        have HH := fun X => rhas_any f t e X
        have HM := Lib.hid hM
        have HMEM2 := Lib.hid hmem
        have HFR := Lib.hid hfr
        have HBX := Lib.hid hbX
        clear hM hmem hfr hbX kxb sxb
        by_cases hh : f <= e /\ e < t
        · rw [show hasB f t e = true from decide_eq_true hh] at HH
          have HH := Lib.hid HH
          have hst := fun z => evB_in (hist := hist) (k := ⟨kk, ka, kw, kb⟩) (n := n) (i := i) he hh z
          have hsz := said_lenR HOKH.out ⟨kk, ka, kw, kb⟩ i e
          have hsd := fun X hX => rpsaid_any ⟨kk, ka, kw, kb⟩ i e X (HP3.out.below hX) (by omega)
          generalize saidH hist ⟨kk, ka, kw, kb⟩ i e = x at hst hsz hsd
          have hszm : x.size <= maxLen := by unfold maxLen; omega
          have HSZ := Lib.hid hszm
          have HSD := Lib.hid hsd
          have HST := Lib.hid hst
          clear hst hszm hsz hsd hh he
          go_wp2_with fail
          refine (HH.out _).mono ?_
          rintro e1 w7 ⟨rfl, b7⟩
          have k0 := below_cell b7 hkl k0
          have k1 := below_cell b7 hkl k1
          have k2 := below_cell b7 hkl k2
          have k3 := below_cell b7 hkl k3
          have hkl7 := Nat.lt_of_lt_of_le hkl b7.size
          have CS := Lib.hid (HSD.out w7 (below_trans HBX.out HBX.out.size b7))
          have B7 := Lib.hid b7
          clear b7 ce s0 s1
          go_wp2_with (first
           | (go_at_call 63; (with_reducible refine CS.out.mono ?_); rintro e1 w8 ⟨rfl, b8⟩; have B78 := Lib.hid (below_trans B7.out B7.out.size b8); obtain ⟨D, hown, hD⟩ := (HM.out.frame (F := fun _ => False) (Fr.new B78.out) (fun e => e)).own; obtain ⟨L', n', hD', hm'⟩ := had_put HM.out.nod hD x; have HD' := Lib.hid hD'; have HN' := Lib.hid n'; have HOW := Lib.hid hown; have HMM := Lib.hid hm'; clear b8 hown hD hD' n' hm')
           | (at_mapUpdate; refine wpList_mapUpdate_own _ rfl _ _ _ 224 rfl 9 4 strLaw Tryz.underlying224 boolR mb c D rfl HOW.out (by unfold maxLen; omega) _ _ _ rfl rfl (keyOf_str HSZ.out) boolD [] rfl ?_; intro w9 hown9 hgrow9))
          have hfr9 : Fr (· = mb) wc w9 := (HFR.out.trans (Fr.new B78.out)).trans (Fr.ofGrown hgrow9)
          exact ⟨⟨j + 1, by omega, by go_num, c + 1, L', ⟨HN'.out, _, hown9, HD'.out⟩, fun z => by rw [HMM.out, HST.out, HMEM2.out], by omega, hfr9⟩, by simp [intOf]; omega⟩
        · rw [show hasB f t e = false from decide_eq_false hh] at HH
          have HH := Lib.hid HH
          have hst := fun z => evB_out (hist := hist) (k := ⟨kk, ka, kw, kb⟩) (n := n) (i := i) he hh z
          have HST := Lib.hid hst
          clear hst hh he
          go_wp2_with fail
          refine (HH.out _).mono ?_
          rintro e1 w7 ⟨rfl, b7⟩
          have B7 := Lib.hid b7
          clear b7 ce s0 s1 k0 k1 k2 k3
          go_wp2_with fail
          exact ⟨⟨j + 1, by omega, by go_num, c, M, HM.out.frame (F := fun _ => False) (Fr.new B7.out) (fun e => e), fun z => by rw [HST.out, HMEM2.out], by omega, HFR.out.trans (Fr.new B7.out)⟩, by simp [intOf]; omega⟩
      · obtain rfl : j = E.length + 1 := by omega
        have hmem2 : ∀ x, x ∈ M ↔ evB hist ⟨kk, ka, kw, kb⟩ (E ++ [f]) f t n (i + 1) 0 x := fun x => by
         rw [hmem, <- evB_next hi1, List.length_append]; rfl
        have HM2 := Lib.hid hM
        have HMEM3 := Lib.hid hmem2
        have HBX := Lib.hid hbX
        clear hM hmem hmem2 hfr hbX
        go_wp2_with fail
        exact ⟨⟨i + 1, by omega, by omega, by go_num, c, M, HM2.out, HMEM3.out, by omega, HBX.out⟩, by simp [intOf]; omega⟩
  · obtain rfl : i = m + 1 := by omega
    generalize wr = W9 at *
    obtain ⟨D, hown, hD⟩ := hM.own
    have hmbl : mb < W9.heap.size := hown.lt
    have hhas : ∀ x ∈ M, Maps.has D (sK x) = true := fun x hx => (hD.has _ (sK_key _)).2 ⟨x, hx, rfl⟩
    have hcM : M.length <= c := by
     have := hown.size_le
     rw [hD.size] at this
     exact this
    have hxs : ∀ x ∈ M, x.size <= maxLen := fun x hx => by
     have : x.size <= 100 := by
      rcases (hmem x).1 hx with ⟨i', _, _, e, _, _, h⟩ | ⟨e, _, _, h⟩
      · rw [<- h]; exact said_lenR HOKH.out _ _ _
      · rw [<- h]; exact said_lenR HOKH.out _ _ _
     unfold maxLen; omega
    have hsz := hD.size
    have HST := Lib.hid (TL.start (M := M) hhas)
    have HD := Lib.hid hD
    have HSZ := Lib.hid hsz
    have HMEM := Lib.hid hmem
    have HB := Lib.hid hb
    have HXS := Lib.hid hxs
    clear hM hhas hD hmem hb hsz hxs
    go_wp2_with (at_range; refine wpList_range_own _ rfl _ 224 rfl 9 4 strLaw Tryz.underlying224 boolR mb c D rfl hown ?_; intro w5 hrg hgr hs5)
    go_frame
    have hB5 : Below W9.heap.size W9 w5 := ⟨hgr.os, hgr.tape, hgr.output, hgr.size, fun i hi' => hgr.block i hi' (by simp)⟩
    obtain ⟨r, hr⟩ : ∃ r, r = W9.heap.size := ⟨_, rfl⟩
    have hrg' : w5.ranges Tryz.prog 9 boolR mb r c D (Maps.has D) (Maps.size D) := by rw [hr]; exact hrg
    have HB5 := Lib.hid hB5
    have HRG' := Lib.hid hrg'
    have HS5 := Lib.hid hs5
    have HRE := Lib.hid hr
    have hmr : mb < r := by rw [hr]; exact hmbl
    rw [<- hr]
    clear hgr hB5 hrg hs5 hown hrg' hr
    go_loopw [19] (fun v X => ∃ (left : Lit -> Bool) (cnt : Nat) (U : List ByteArray), X.ranges Tryz.prog 9 boolR mb r c D left cnt /\ TL M left U /\ U.length + cnt <= M.length /\ X.ownsRow (r + 1) 9 1 v U.length (U.map Value.string) /\ Below r W9 X /\ r < X.heap.size /\ (∀ q, left q = true -> Maps.has D q = true)) (fun _ X => X.rangeLeft mb r)
    case atStart => exact ⟨_, _, [], HRG'.out, HST.out, by rw [HSZ.out]; simp, World.ownsRow_nil _ _ _ _, by rw [HRE.out]; exact HB5.out, by have := HS5.out; have := HRE.out; omega, fun _ e => e⟩
    case round =>
     obtain ⟨left, cnt, U, hrg, hTL, hcnt, hownU, hBr, hrl, hsub⟩ := hrel
     have HTL := Lib.hid hTL
     have HBR := Lib.hid hBr
     have HSUB := Lib.hid hsub
     have HRGW := Lib.hid hrg
     clear hTL hBr hsub
     go_wp2_with (at_next; refine wpList_next_raw _ rfl _ rfl 9 strLaw boolR mb r c D left cnt rfl hrg ?_ ?_)
     · intro hc0 hl0
       have HL0 := Lib.hid hl0
       have HO := Lib.hid hownU
       have hUl : U.length < 4611686018427387904 := by omega
       clear hl0 hc0 hrg hownU
       go_wp2_with (go_at_call 134; (with_reducible refine (sortTexts_own (r + 1) U _ wr HO.out (by omega) hUl HTL.out.nod).mono ?_); rintro e w6 ⟨rfl, ⟨S, hS1, hS2, hS3, hS4⟩, b6⟩; have HS1 := Lib.hid hS1; have HS2 := Lib.hid hS2; have HS3 := Lib.hid hS3; have HS4 := Lib.hid hS4; have B6 := Lib.hid b6; clear hS1 hS2 hS3 hS4 b6)
       go_ret2
       have hb9 : Below w.heap.size w W9 := HB03.out.trans (HB.out.mono HB03.out.size)
       have hb10 : Below r W9 w6 := HBR.out.trans (B6.out.mono (by omega))
       have hb11 : Below w.heap.size w w6 := hb9.trans (hb10.mono (by rw [HRE.out]; exact hb9.size))
       refine ⟨_, S, rfl, ⟨HS2.out, fun x => ?_⟩, ownsRow_mono HS4.out (by have := hb9.size; have := HRE.out; omega), hb11⟩
       rw [HS3.out, HTL.out.done HL0.out, HMEM.out]
       constructor
       · rintro ⟨h1, h2⟩
         exact (evB_all HEM.out h2).1 h1
       · intro h1
         exact ⟨(evB_all HEM.out h1.1).2 h1, h1.1⟩
     · intro key v kl y1 y2 w6 cnt3 hkey hlk hv hat hrg3 hlt3 hgr3 hs3 hen
       obtain ⟨x, hx, e⟩ := HD.out.got (strLaw.key hkey) (HSUB.out _ hlk)
       have ek : key = .string x := strLaw.inj hkey (by rw [<- e]; exact keyOf_str (HXS.out x hx))
       subst ek
       have ekl : kl = sK x := e.symm
       subst ekl
       have hF3 : Fr (· = r) wr w6 := Fr.ofGrown hgr3
       have hB3 : Below r W9 w6 := HBR.out.trans (hF3.below (B := r) (fun k _ e => by omega) (by omega))
       have hown3 := ownsRow_frame hownU hF3 (fun g hg e => by omega)
       have hsub3 : ∀ q, (left q && !q.sameKey (sK x)) = true -> Maps.has D q = true := fun q hq => HSUB.out q (by rw [Bool.and_eq_true] at hq; exact hq.1)
       have HRG3 := Lib.hid hrg3
       have HB3 := Lib.hid hB3
       have HSUB3 := Lib.hid hsub3
       have HO3 := Lib.hid hown3
       have hrl3 : r < w6.heap.size := by omega
       have frame : ∀ W, Below (r + 1) w6 W -> W.ranges Tryz.prog 9 boolR mb r c D (fun z => left z && !z.sameKey (sK x)) cnt3 := fun W hB => ranges_frame HRG3.out (Fr.ofBelow hB) (by omega) (by omega)
       have HFRM := Lib.hid frame
       have hrr : r + 1 <= w6.heap.size := by omega
       rcases Nat.eq_zero_or_pos x.size with h0 | h0
       · have hv1 := isE0 h0
         have HN := Lib.hid (HTL.out.no h0)
         clear frame hrg3 hB3 hsub3 hown3 hF3 hgr3 hat hv hkey e h0 hx hlk
         go_wp2_with fail
         go_roundw
         case rel =>
          (repeat apply Exists.intro)
          exact ⟨⟨_, cnt3, U, HRG3.out, HN.out, by omega, HO3.out, HB3.out, hrl3, HSUB3.out⟩, rfl⟩
         case measure => rw [HRG3.out.left_eq, HRGW.out.left_eq]; exact hlt3
       · have h1 : x.size ≠ 0 := by omega
         have hv1 := isE1 h1
         have HN := Lib.hid (HTL.out.yes hx hlk h1)
         clear frame hrg3 hB3 hsub3 hown3 hF3 hgr3 hat hv hkey e h0 h1 hx hlk hs3
         go_wp2_with (at_builtin; refine appText rfl _ _ rfl (r + 1) _ U rfl (HO3.out.alloc _) w6.heap.size x rfl (by simp) (by omega) (by simp; omega) w6 ((Below.refl _ _).alloc hrr _) ?_; intro v8 w8 hown8 hB8 hs8 _)
         go_roundw
         case rel =>
          (repeat apply Exists.intro)
          exact ⟨⟨_, cnt3, U ++ [x], HFRM.out _ hB8, HN.out, by rw [List.length_append, List.length_singleton]; omega, hown8, HB3.out.trans (hB8.mono (by omega)), by have := hB8.size; omega, HSUB3.out⟩, rfl⟩
         case measure => rw [(HFRM.out _ hB8).left_eq, HRGW.out.left_eq]; exact hlt3
end
end Go.Proofs.YtflhpmgjehjjkaaGreatDoor
namespace Go.Proofs.YtflhpmgjehjjkaaGreatDoor
open Go.RowKit Go.Deep Go.Shelf Go.Sort Go.Maps
theorem ownsRow_len {w : World} {base : Nat} {e : TypeId} {size : Nat} {v : Value} {n : Nat} {xs : List Value} (h : w.ownsRow base e size v n xs) : n <= maxLen := by
 rcases h.2 with ⟨_, h0⟩ | ⟨g, cap, cur, _, _, _, h1, h2, _⟩
 · rw [h0]; exact Nat.zero_le _
 · exact Nat.le_trans h1 h2
section
variable {F : Nat -> Prop} {rb : Nat} {hist : List (List OpP)} {known : Int} {w : World} {pb po : Nat} {R : Rest} {s : Pst} {g : Gh}
theorem askE_R (h : PastIs w pb po R hist s g) (hk : s.gone = known) (a : Int) : askE s a = askR hist.length known a := by unfold askE askR; rw [h.now, hk]
theorem errN_of {n : Int} (h : n ≠ 0) : errN n = errV n := by unfold errN; rw [if_neg h]
theorem pvalue_same (h : PastIs w pb po R hist s g) (hk : s.gone = known) (k : KeyP) (a t : Int) (hs : k.word.size <= maxLen) :
  Calls Tryz.prog 51 #[.pointer (some ⟨pb, po, none⟩), .agg #[.int .i64 k.kind, .int .i64 k.a, .string k.word, .int .i64 k.b], .int .i64 a, .int .i64 t] w fun e w' => e = .returned (.tuple #[.string (valR hist known k a t).1, errN (valR hist known k a t).2]) /\ Below w.heap.size w w' := by
 have hv := pvalue_any k a t pb po R s g w h.at' hs (by have := h.nx; omega)
 have e : valV s k a t = .tuple #[.string (valR hist known k a t).1, errN (valR hist known k a t).2] := by
  have ha := askE_R h hk a
  unfold valR
  by_cases h0 : askR hist.length known a = 0
  · rw [if_neg (by rw [h0]; decide)]
    cases hb : keyB k && timeB t with
    | true =>
      rw [Bool.and_eq_true] at hb
      obtain ⟨q1, q2, q3⟩ := askR_0 h0
      rw [if_pos rfl, valV_ok (by rw [ha]; exact h0) hb.1 hb.2]
      obtain ⟨n, rfl⟩ : ∃ n : Nat, a = n := ⟨a.toNat, by omega⟩
      rw [value_told h.wf h.told hb.2 (by rw [hk]; exact q3) (by omega)]
      rfl
    | false =>
      rw [if_neg (by decide)]
      have : valE s k a t = 1 := by unfold valE; rw [if_neg (by rw [ha, h0]; decide), hb]; rfl
      unfold valV
      rw [this, if_neg (by decide)]
  · rw [if_pos h0, valV_ask (by rw [ha]; exact h0), ha]
    simp only [errN_of h0]
 rw [e] at hv
 exact hv
def PSpec (hist : List (List OpP)) (known : Int) (k : KeyP) (a : Int) (L : List Pc) : Prop := (pieRE hist known k a = 0 -> PiecesOf hist k a.toNat L) /\ (pieRE hist known k a ≠ 0 -> L = [])
theorem PSpec.one {k : KeyP} {a : Int} {L M : List Pc} (h : PSpec hist known k a L) (h' : PSpec hist known k a M) : L = M := by
 rcases Decidable.em (pieRE hist known k a = 0) with e | e
 · exact (h.1 e).one (h'.1 e) fun _ => rfl
 · rw [h.2 e, h'.2 e]
theorem pieRE_0 {k : KeyP} {a : Int} (h : pieRE hist known k a = 0) : askR hist.length known a = 0 /\ keyB k = true := by
 unfold pieRE at h
 rcases Decidable.em (askR hist.length known a = 0) with e | e
 · rw [if_neg (by rw [e]; decide)] at h
   cases hb : keyB k with
   | true => exact ⟨e, rfl⟩
   | false => rw [hb] at h; exact absurd h (by decide)
 · rw [if_pos e] at h; exact absurd h e
theorem pcsAt_nil (w : World) : PcsAt w none [] := fun j p h => by cases h
theorem rpieces_same (h : RP F w rb hist known) (k : KeyP) (a : Int) (hs : k.word.size <= maxLen) :
  Calls Tryz.prog 84 #[.pointer (some ⟨rb, 0, none⟩), .agg #[.int .i64 k.kind, .int .i64 k.a, .string k.word, .int .i64 k.b], .int .i64 a] w fun e w' => ∃ (ao : Option Addr) (cap : Nat) (L : List Pc), e = .returned (.tuple #[.slice ao L.length cap, .int .i64 (pieRE hist known k a)]) /\ PSpec hist known k a L /\ L.length <= maxLen /\ PcsAt w' ao L /\ Below w.heap.size w w' := by
 rcases Decidable.em (pieRE hist known k a = 0) with e | e
 · obtain ⟨q1, q2, q3⟩ := askR_0 (pieRE_0 e).1
   obtain ⟨n, rfl⟩ : ∃ n : Nat, a = n := ⟨a.toNat, by omega⟩
   refine (rppieces_ok k n w h hs e).mono ?_
   rintro e1 w' ⟨v, L, rfl, hp, hl, hown, hb⟩
   obtain ⟨ao, cap, rfl, hat⟩ := ownsRow_pcs hown
   exact ⟨ao, cap, L, by rw [e], ⟨fun _ => hp, fun h => absurd e h⟩, by unfold maxLen; omega, hat, hb⟩
 · refine (rppieces_bad k a w h hs e).mono ?_
   rintro e1 w' ⟨rfl, hb⟩
   exact ⟨none, 0, [], rfl, ⟨fun h => absurd h e, fun _ => rfl⟩, by decide, pcsAt_nil _, hb⟩
theorem ppieces_same (h : PastIs w pb po R hist s g) (hk : s.gone = known) (k : KeyP) (a : Int) (hs : k.word.size <= maxLen) :
  Calls Tryz.prog 40 #[.pointer (some ⟨pb, po, none⟩), .agg #[.int .i64 k.kind, .int .i64 k.a, .string k.word, .int .i64 k.b], .int .i64 a] w fun e w' => ∃ (ao : Option Addr) (cap : Nat) (L : List Pc), e = .returned (.tuple #[.slice ao L.length cap, errN (pieRE hist known k a)]) /\ PSpec hist known k a L /\ PcsAt w' ao L /\ Below w.heap.size w w' := by
 have ha := askE_R h hk a
 have hE : pieE s k a = pieRE hist known k a := by unfold pieE pieRE; rw [ha]
 rcases Decidable.em (pieRE hist known k a = 0) with e | e
 · obtain ⟨e1, e2⟩ := pieRE_0 e
   obtain ⟨q1, q2, q3⟩ := askR_0 e1
   obtain ⟨n, rfl⟩ : ∃ n : Nat, a = n := ⟨a.toNat, by omega⟩
   refine (pieces_is k n pb po R hist s g w h e2 (by rw [hk]; exact q3) (by omega)).mono ?_
   rintro e1 w' ⟨v, L, rfl, hp, _, hl, hown, hb⟩
   obtain ⟨ao, cap, rfl, hat⟩ := ownsRow_pcs hown
   exact ⟨ao, cap, L, by rw [e]; rfl, ⟨fun _ => hp, fun h => absurd e h⟩, hat, hb⟩
 · refine (pPieces_bad k a pb po R s g w h.at' hs (by rw [hE]; exact e)).mono ?_
   rintro e1 w' ⟨rfl, hb⟩
   exact ⟨none, 0, [], by rw [hE, errN_of e]; rfl, ⟨fun h => absurd h e, fun _ => rfl⟩, pcsAt_nil _, hb⟩
def ESpec (hist : List (List OpP)) (known : Int) (k : KeyP) (a b f t : Int) (L : List ByteArray) : Prop := (everRE hist known k a b f t = 0 -> EversIs hist k a.toNat b.toNat f t L) /\ (everRE hist known k a b f t ≠ 0 -> L = [])
theorem ESpec.one {k : KeyP} {a b f t : Int} {L M : List ByteArray} (h : ESpec hist known k a b f t L) (h' : ESpec hist known k a b f t M) : L = M := by
 rcases Decidable.em (everRE hist known k a b f t = 0) with e | e
 · exact (h.1 e).one (h'.1 e) fun _ => Iff.rfl
 · rw [h.2 e, h'.2 e]
theorem everRE_0 {k : KeyP} {a b f t : Int} (h : everRE hist known k a b f t = 0) : askR hist.length known a = 0 /\ askR hist.length known b = 0 /\ a <= b /\ keyB k = true /\ rightB f t = true := by
 unfold everRE at h
 rcases Decidable.em (askR hist.length known a = 0) with e | e
 · rw [if_neg (by rw [e]; decide)] at h
   rcases Decidable.em (askR hist.length known b = 0) with e2 | e2
   · rw [if_neg (by rw [e2]; decide)] at h
     rcases Decidable.em (b < a) with e3 | e3
     · rw [if_pos e3] at h; exact absurd h (by decide)
     · rw [if_neg e3] at h
       cases hb : keyB k && rightB f t with
       | true => rw [Bool.and_eq_true] at hb; exact ⟨e, e2, by omega, hb.1, hb.2⟩
       | false => rw [hb] at h; exact absurd h (by decide)
   · rw [if_pos e2] at h; exact absurd h e2
 · rw [if_pos e] at h; exact absurd h e
theorem textsIn_nil (w : World) : TextsIn w none [] := fun j p h => by cases h
theorem rever_same (h : RP F w rb hist known) (k : KeyP) (a b f t : Int) (hs : k.word.size <= maxLen) :
  Calls Tryz.prog 86 #[.pointer (some ⟨rb, 0, none⟩), .agg #[.int .i64 k.kind, .int .i64 k.a, .string k.word, .int .i64 k.b], .int .i64 a, .int .i64 b, .agg #[.int .i64 f, .int .i64 t]] w fun e w' => ∃ (ao : Option Addr) (cap : Nat) (L : List ByteArray), e = .returned (.tuple #[.slice ao L.length cap, .int .i64 (everRE hist known k a b f t)]) /\ ESpec hist known k a b f t L /\ L.length <= maxLen /\ TextsIn w' ao L /\ Below w.heap.size w w' := by
 rcases Decidable.em (everRE hist known k a b f t = 0) with e | e
 · obtain ⟨e1, e2, e3, e4, e5⟩ := everRE_0 e
   obtain ⟨q1, q2, q3⟩ := askR_0 e1
   obtain ⟨r1, r2, r3⟩ := askR_0 e2
   obtain ⟨n, rfl⟩ : ∃ n : Nat, a = n := ⟨a.toNat, by omega⟩
   obtain ⟨m, rfl⟩ : ∃ m : Nat, b = m := ⟨b.toNat, by omega⟩
   refine (rpever_ok k n m f t w h hs e).mono ?_
   rintro e1 w' ⟨v, L, rfl, hp, hown, hb⟩
   have hle := ownsRow_len hown
   obtain ⟨ao, cap, rfl, hat⟩ := ownsRow_textsIn hown
   exact ⟨ao, cap, L, by rw [e], ⟨fun _ => hp, fun h => absurd e h⟩, hle, hat, hb⟩
 · refine (rpever_bad k a b f t w h hs e).mono ?_
   rintro e1 w' ⟨rfl, hb⟩
   exact ⟨none, 0, [], rfl, ⟨fun h => absurd h e, fun _ => rfl⟩, by decide, textsIn_nil _, hb⟩
theorem pever_same (h : PastIs w pb po R hist s g) (hk : s.gone = known) (k : KeyP) (a b f t : Int) (hs : k.word.size <= maxLen) :
  Calls Tryz.prog 87 #[.pointer (some ⟨pb, po, none⟩), .agg #[.int .i64 k.kind, .int .i64 k.a, .string k.word, .int .i64 k.b], .int .i64 a, .int .i64 b, .agg #[.int .i64 f, .int .i64 t]] w fun e w' => ∃ (ao : Option Addr) (cap : Nat) (L : List ByteArray), e = .returned (.tuple #[.slice ao L.length cap, errN (everRE hist known k a b f t)]) /\ ESpec hist known k a b f t L /\ TextsIn w' ao L /\ Below w.heap.size w w' := by
 have ha := askE_R h hk a
 have hb := askE_R h hk b
 have hE : everE s k a b f t = everRE hist known k a b f t := by unfold everE everRE; rw [ha, hb]
 rcases Decidable.em (everRE hist known k a b f t = 0) with e | e
 · obtain ⟨e1, e2, e3, e4, e5⟩ := everRE_0 e
   obtain ⟨q1, q2, q3⟩ := askR_0 e1
   obtain ⟨r1, r2, r3⟩ := askR_0 e2
   obtain ⟨n, rfl⟩ : ∃ n : Nat, a = n := ⟨a.toNat, by omega⟩
   obtain ⟨m, rfl⟩ : ∃ m : Nat, b = m := ⟨b.toNat, by omega⟩
   refine (ever_is k n m f t pb po R hist s g w h e4 e5 (by rw [hk]; exact q3) (by omega) (by omega)).mono ?_
   rintro e1 w' ⟨v, L, rfl, hp, hown, hb⟩
   obtain ⟨ao, cap, rfl, hat⟩ := ownsRow_textsIn hown
   exact ⟨ao, cap, L, by rw [e]; rfl, ⟨fun _ => hp, fun h => absurd e h⟩, hat, hb⟩
 · refine (pever_bad k a b f t pb po R s g w h.at' hs (by rw [hE]; exact e)).mono ?_
   rintro e1 w' ⟨rfl, hb⟩
   exact ⟨none, 0, [], by rw [hE, errN_of e]; rfl, ⟨fun h => absurd h e, fun _ => rfl⟩, textsIn_nil _, hb⟩
def KSpec (hist : List (List OpP)) (known : Int) (a t : Int) (L : List KeyP) : Prop := (keyRE hist known a t = 0 -> KeysIs hist a.toNat t L) /\ (keyRE hist known a t ≠ 0 -> L = [])
theorem KSpec.one {a t : Int} {L M : List KeyP} (h : KSpec hist known a t L) (h' : KSpec hist known a t M) : L = M := by
 rcases Decidable.em (keyRE hist known a t = 0) with e | e
 · exact (h.1 e).one (h'.1 e) fun _ => rfl
 · rw [h.2 e, h'.2 e]
theorem keysIn_nil (w : World) : KeysIn w none [] := fun j p h => by cases h
theorem rkeys_same (h : RP F w rb hist known) (a t : Int) :
  Calls Tryz.prog 62 #[.pointer (some ⟨rb, 0, none⟩), .int .i64 a, .int .i64 t] w fun e w' => ∃ (ao : Option Addr) (cap : Nat) (L : List KeyP), e = .returned (.tuple #[.slice ao L.length cap, .int .i64 (keyRE hist known a t)]) /\ KSpec hist known a t L /\ L.length <= maxLen /\ KeysIn w' ao L /\ Below w.heap.size w w' := by
 rcases Decidable.em (keyRE hist known a t = 0) with e | e
 · obtain ⟨q1, q2, q3⟩ := askR_0 (keyRE_0 e).1
   obtain ⟨n, rfl⟩ : ∃ n : Nat, a = n := ⟨a.toNat, by omega⟩
   refine (rpkeys_ok n t w h e).mono ?_
   rintro e1 w' ⟨v, L, rfl, hp, hown, hb⟩
   have hle := ownsRow_len hown
   obtain ⟨ao, cap, rfl, hat⟩ := ownsRow_keysIn hown
   exact ⟨ao, cap, L, by rw [e], ⟨fun _ => hp, fun h => absurd e h⟩, hle, hat, hb⟩
 · refine (rpkeys_bad a t w h e).mono ?_
   rintro e1 w' ⟨rfl, rfl⟩
   exact ⟨none, 0, [], rfl, ⟨fun h => absurd h e, fun _ => rfl⟩, by decide, keysIn_nil _, Below.refl _ _⟩
theorem pkeys_same (h : PastIs w pb po R hist s g) (hok : ∀ l ∈ hist, okL l = true) (hk : s.gone = known) (a t : Int) :
  Calls Tryz.prog 50 #[.pointer (some ⟨pb, po, none⟩), .int .i64 a, .int .i64 t] w fun e w' => ∃ (ao : Option Addr) (cap : Nat) (L : List KeyP), e = .returned (.tuple #[.slice ao L.length cap, errN (keyRE hist known a t)]) /\ KSpec hist known a t L /\ KeysIn w' ao L /\ Below w.heap.size w w' := by
 have ha := askE_R h hk a
 have hE : keyE s a t = keyRE hist known a t := by unfold keyE keyRE; rw [ha]
 rcases Decidable.em (keyRE hist known a t = 0) with e | e
 · obtain ⟨e1, e2⟩ := keyRE_0 e
   obtain ⟨q1, q2, q3⟩ := askR_0 e1
   obtain ⟨n, rfl⟩ : ∃ n : Nat, a = n := ⟨a.toNat, by omega⟩
   refine (keys_is n t pb po R hist s g w h (fun l hl => (okL_iff.1 (hok l hl)).2) e2 (by rw [hk]; exact q3) (by omega)).mono ?_
   rintro e1 w' ⟨v, L, rfl, hp, _, hl, hown, hb⟩
   obtain ⟨ao, cap, rfl, hat⟩ := ownsRow_keysIn hown
   exact ⟨ao, cap, L, by rw [e]; rfl, ⟨fun _ => hp, fun h => absurd e h⟩, hat, hb⟩
 · refine (pkeys_bad a t pb po R s g w h.at' (by rw [hE]; exact e)).mono ?_
   rintro e1 w' ⟨rfl, rfl⟩
   exact ⟨none, 0, [], by rw [hE, errN_of e]; rfl, ⟨fun h => absurd h e, fun _ => rfl⟩, keysIn_nil _, Below.refl _ _⟩
end
end Go.Proofs.YtflhpmgjehjjkaaGreatDoor
namespace Go.Proofs.YtflhpmgjehjjkaaGreatDoor
open Go.RowKit Go.Deep Go.Shelf Go.Sort Go.Maps
theorem errN_is (w : World) (n : Int) : ErrIs w (errN n) n (-1) := by
 unfold errN
 by_cases h : n = 0
 · rw [if_pos h]; exact .inl ⟨rfl, h, rfl⟩
 · rw [if_neg h]; exact .inr (.inl ⟨rfl, rfl⟩)
theorem bare_same (n : Int) (w : World) (hg : ErrVar w) : Calls Tryz.prog 23 #[errN n, .int .i64 n] w fun e w' => e = .returned (.bool true) /\ Below w.heap.size w w' := by
 have := bare_any (errN n) n (-1) n w hg (errN_is w n)
 rw [show (n == n && (-1 : Int) == -1) = true by simp] at this
 exact this
structure AB (A : Nat) (kk ka : Int) (kw : ByteArray) (kb a b t f u : Int) (X : World) : Prop where
 c0 : X.cell? ⟨A, 0, none⟩ = some (.int .i64 kk)
 c1 : X.cell? ⟨A, 1, none⟩ = some (.int .i64 ka)
 c2 : X.cell? ⟨A, 2, none⟩ = some (.string kw)
 c3 : X.cell? ⟨A, 3, none⟩ = some (.int .i64 kb)
 c4 : X.cell? ⟨A, 4, none⟩ = some (.int .i64 a)
 c5 : X.cell? ⟨A, 5, none⟩ = some (.int .i64 b)
 c6 : X.cell? ⟨A, 6, none⟩ = some (.int .i64 t)
 c7 : X.cell? ⟨A, 7, none⟩ = some (.int .i64 f)
 c8 : X.cell? ⟨A, 8, none⟩ = some (.int .i64 u)
 lt : A < X.heap.size
theorem AB.below {A : Nat} {kk ka : Int} {kw : ByteArray} {kb a b t f u : Int} {X Y : World} (h : AB A kk ka kw kb a b t f u X) (k : Below X.heap.size X Y) : AB A kk ka kw kb a b t f u Y :=
 ⟨below_cell k h.lt h.c0, below_cell k h.lt h.c1, below_cell k h.lt h.c2, below_cell k h.lt h.c3, below_cell k h.lt h.c4, below_cell k h.lt h.c5, below_cell k h.lt h.c6, below_cell k h.lt h.c7, below_cell k h.lt h.c8, Nat.lt_of_lt_of_le h.lt k.size⟩
structure TP (F : Nat -> Prop) (pb po rb : Nat) (R : Rest) (hist : List (List OpP)) (s : Pst) (g : Gh) (known : Int) (X : World) : Prop where
 p : PastIs X pb po R hist s g
 r : RP F X rb hist known
 k : s.gone = known
 e : ErrVar X
theorem TP.below {F : Nat -> Prop} {pb po rb : Nat} {R : Rest} {hist : List (List OpP)} {s : Pst} {g : Gh} {known : Int} {X Y : World} (h : TP F pb po rb R hist s g known X) (b : Below X.heap.size X Y) : TP F pb po rb R hist s g known Y :=
 ⟨h.p.below b, h.r.below b, h.k, h.e.below b⟩
set_option maxRecDepth 100000 in
set_option maxHeartbeats 16000000 in
theorem tells_any {F : Nat -> Prop} {pb po rb : Nat} {R : Rest} {hist : List (List OpP)} {s : Pst} {g : Gh} {known : Int} (kk ka : Int) (kw : ByteArray) (kb a b t f u : Int) (w : World) (h : TP F pb po rb R hist s g known w) (hs : kw.size <= maxLen) :
  Calls Tryz.prog 46 #[.pointer (some ⟨pb, po, none⟩), .pointer (some ⟨rb, 0, none⟩), .agg #[.int .i64 kk, .int .i64 ka, .string kw, .int .i64 kb, .int .i64 a, .int .i64 b, .int .i64 t, .int .i64 f, .int .i64 u]] w fun e w' => e = .returned (.bool true) /\ Below w.heap.size w w' := by
 obtain ⟨A, hA⟩ : ∃ A, A = w.heap.size := ⟨_, rfl⟩
 obtain ⟨W0, hW0⟩ : ∃ W0, W0 = w.alloc (.cells #[.int .i64 kk, .int .i64 ka, .string kw, .int .i64 kb, .int .i64 a, .int .i64 b, .int .i64 t, .int .i64 f, .int .i64 u] 110) := ⟨_, rfl⟩
 have hB0 : Below w.heap.size w W0 := by rw [hW0]; exact (Below.refl _ _).alloc (Nat.le_refl _) _
 have hblk : W0.heap[A]? = some (.cells #[.int .i64 kk, .int .i64 ka, .string kw, .int .i64 kb, .int .i64 a, .int .i64 b, .int .i64 t, .int .i64 f, .int .i64 u] 110 (0, 0)) := by rw [hW0, hA]; exact block_alloc_new _ _
 have hab : AB A kk ka kw kb a b t f u W0 := ⟨block_cell hblk 0, block_cell hblk 1, block_cell hblk 2, block_cell hblk 3, block_cell hblk 4, block_cell hblk 5, block_cell hblk 6, block_cell hblk 7, block_cell hblk 8, lt_of_block hblk⟩
 have T0 := Lib.hid (h.below hB0)
 have A0 := Lib.hid hab
 have B0 := Lib.hid hB0
 have HW0 := Lib.hid hW0
 have HA := Lib.hid hA
 obtain ⟨p0, p1, p2, p3, p4, p5, p6, p7, p8, pl⟩ := hab
 have hsm : kw.size <= 9223372036854775807 := by unfold maxLen at hs; omega
 clear h hblk hB0 hW0 hA
 by_cases hlen : (kw.size : Int) > 60
 · go_enter Tryz.func46, Tryz.ntmps46
   go_wp2_with (rw [<- HW0.out, <- HA.out])
   go_ret
   exact ⟨rfl, B0.out⟩
 · obtain ⟨x, hx⟩ : ∃ x, x = (valR hist known ⟨kk, ka, kw, kb⟩ a t).1 := ⟨_, rfl⟩
   obtain ⟨n1, hn1⟩ : ∃ n, n = (valR hist known ⟨kk, ka, kw, kb⟩ a t).2 := ⟨_, rfl⟩
   obtain ⟨n2, hn2⟩ : ∃ n, n = pieRE hist known ⟨kk, ka, kw, kb⟩ a := ⟨_, rfl⟩
   obtain ⟨n3, hn3⟩ : ∃ n, n = everRE hist known ⟨kk, ka, kw, kb⟩ a b f u := ⟨_, rfl⟩
   obtain ⟨n4, hn4⟩ : ∃ n, n = keyRE hist known a t := ⟨_, rfl⟩
   have CV := Lib.hid fun (X : World) (hT : TP F pb po rb R hist s g known X) => rpvalue_any ⟨kk, ka, kw, kb⟩ a t X hT.r hs
   have CW := Lib.hid fun (X : World) (hT : TP F pb po rb R hist s g known X) => pvalue_same hT.p hT.k ⟨kk, ka, kw, kb⟩ a t hs
   rw [<- hx, <- hn1] at CV CW
   have CP := Lib.hid fun (X : World) (hT : TP F pb po rb R hist s g known X) => rpieces_same hT.r ⟨kk, ka, kw, kb⟩ a hs
   have CQ := Lib.hid fun (X : World) (hT : TP F pb po rb R hist s g known X) => ppieces_same hT.p hT.k ⟨kk, ka, kw, kb⟩ a hs
   rw [<- hn2] at CP CQ
   have CE := Lib.hid fun (X : World) (hT : TP F pb po rb R hist s g known X) => rever_same hT.r ⟨kk, ka, kw, kb⟩ a b f u hs
   have CG := Lib.hid fun (X : World) (hT : TP F pb po rb R hist s g known X) => pever_same hT.p hT.k ⟨kk, ka, kw, kb⟩ a b f u hs
   rw [<- hn3] at CE CG
   have CK := Lib.hid fun (X : World) (hT : TP F pb po rb R hist s g known X) => rkeys_same hT.r a t
   have CL := Lib.hid fun (X : World) (hT : TP F pb po rb R hist s g known X) => pkeys_same hT.p hT.r.ok hT.k a t
   rw [<- hn4] at CK CL
   have CB := Lib.hid fun (n : Int) (X : World) (hT : TP F pb po rb R hist s g known X) => bare_same n X hT.e
   have hxx : (!x.toList == x.toList) = false := by simp
   clear hx hn1 hn2 hn3 hn4
   go_enter Tryz.func46, Tryz.ntmps46
   go_wp2_with (first
    | (rw [<- HW0.out, <- HA.out])
    | (go_at_call 83; (with_reducible refine (CV.out W0 T0.out).mono ?_); rintro e w1 ⟨rfl, b1⟩; have T1 := Lib.hid (T0.out.below b1); have A1 := Lib.hid (A0.out.below b1); have B1 := Lib.hid (B0.out.trans (b1.mono B0.out.size)); clear p0 p1 p2 p3 p4 p5 p6 p7 p8 pl b1; obtain ⟨p0, p1, p2, p3, p4, p5, p6, p7, p8, pl⟩ := A1.out)
    | (go_at_call 51; (with_reducible refine (CW.out w1 T1.out).mono ?_); rintro e w2 ⟨rfl, b1⟩; have T2 := Lib.hid (T1.out.below b1); have A2 := Lib.hid (A1.out.below b1); have B2 := Lib.hid (B1.out.trans (b1.mono B1.out.size)); clear p0 p1 p2 p3 p4 p5 p6 p7 p8 pl b1; obtain ⟨p0, p1, p2, p3, p4, p5, p6, p7, p8, pl⟩ := A2.out)
    | (go_at_call 23; (with_reducible refine (CB.out n1 w2 T2.out).mono ?_); rintro e w3 ⟨rfl, b1⟩; have T3 := Lib.hid (T2.out.below b1); have A3 := Lib.hid (A2.out.below b1); have B3 := Lib.hid (B2.out.trans (b1.mono B2.out.size)); clear p0 p1 p2 p3 p4 p5 p6 p7 p8 pl b1; obtain ⟨p0, p1, p2, p3, p4, p5, p6, p7, p8, pl⟩ := A3.out)
    | (go_at_call 84; (with_reducible refine (CP.out w3 T3.out).mono ?_); rintro e w4 ⟨ao, ca, L, rfl, hl1, hl2, hl3, b1⟩; have S4 := Lib.hid hl1; have Z4 := Lib.hid hl2; have L4 := Lib.hid hl3; have T4 := Lib.hid (T3.out.below b1); have A4 := Lib.hid (A3.out.below b1); have B4 := Lib.hid (B3.out.trans (b1.mono B3.out.size)); clear p0 p1 p2 p3 p4 p5 p6 p7 p8 pl b1 hl1 hl2 hl3; obtain ⟨p0, p1, p2, p3, p4, p5, p6, p7, p8, pl⟩ := A4.out)
    | (go_at_call 40; (with_reducible refine (CQ.out w4 T4.out).mono ?_); rintro e w5 ⟨bo, cb, L', rfl, hl1, hl3, b1⟩; obtain rfl := S4.out.one hl1; have L5 := Lib.hid hl3; have K5 := Lib.hid (L4.out.below b1); have T5 := Lib.hid (T4.out.below b1); have A5 := Lib.hid (A4.out.below b1); have B5 := Lib.hid (B4.out.trans (b1.mono B4.out.size)); clear p0 p1 p2 p3 p4 p5 p6 p7 p8 pl b1 hl1 hl3; obtain ⟨p0, p1, p2, p3, p4, p5, p6, p7, p8, pl⟩ := A5.out)
    | (go_at_call 23; (with_reducible refine (CB.out n2 w5 T5.out).mono ?_); rintro e w6 ⟨rfl, b1⟩; have L6 := Lib.hid (L5.out.below b1); have K6 := Lib.hid (K5.out.below b1); have T6 := Lib.hid (T5.out.below b1); have A6 := Lib.hid (A5.out.below b1); have B6 := Lib.hid (B5.out.trans (b1.mono B5.out.size)); clear p0 p1 p2 p3 p4 p5 p6 p7 p8 pl b1; obtain ⟨p0, p1, p2, p3, p4, p5, p6, p7, p8, pl⟩ := A6.out)
    | (go_at_call 85; (with_reducible refine (samePieces_any L bo ao cb ca w6 L6.out K6.out Z4.out).mono ?_); rintro e w7 ⟨rfl, b1⟩; have T7 := Lib.hid (T6.out.below b1); have A7 := Lib.hid (A6.out.below b1); have B7 := Lib.hid (B6.out.trans (b1.mono B6.out.size)); clear p0 p1 p2 p3 p4 p5 p6 p7 p8 pl b1; obtain ⟨p0, p1, p2, p3, p4, p5, p6, p7, p8, pl⟩ := A7.out)
    | (go_at_call 86; (with_reducible refine (CE.out w7 T7.out).mono ?_); rintro e w8 ⟨co, cc, E, rfl, hl1, hl2, hl3, b1⟩; have S8 := Lib.hid hl1; have Z8 := Lib.hid hl2; have L8 := Lib.hid hl3; have T8 := Lib.hid (T7.out.below b1); have A8 := Lib.hid (A7.out.below b1); have B8 := Lib.hid (B7.out.trans (b1.mono B7.out.size)); clear p0 p1 p2 p3 p4 p5 p6 p7 p8 pl b1 hl1 hl2 hl3; obtain ⟨p0, p1, p2, p3, p4, p5, p6, p7, p8, pl⟩ := A8.out)
    | (go_at_call 87; (with_reducible refine (CG.out w8 T8.out).mono ?_); rintro e w9 ⟨do_, cd, E', rfl, hl1, hl3, b1⟩; obtain rfl := S8.out.one hl1; have L9 := Lib.hid hl3; have K9 := Lib.hid (L8.out.below b1); have T9 := Lib.hid (T8.out.below b1); have A9 := Lib.hid (A8.out.below b1); have B9 := Lib.hid (B8.out.trans (b1.mono B8.out.size)); clear p0 p1 p2 p3 p4 p5 p6 p7 p8 pl b1 hl1 hl3; obtain ⟨p0, p1, p2, p3, p4, p5, p6, p7, p8, pl⟩ := A9.out)
    | (go_at_call 23; (with_reducible refine (CB.out n3 w9 T9.out).mono ?_); rintro e w10 ⟨rfl, b1⟩; have L10 := Lib.hid (L9.out.below b1); have K10 := Lib.hid (K9.out.below b1); have T10 := Lib.hid (T9.out.below b1); have A10 := Lib.hid (A9.out.below b1); have B10 := Lib.hid (B9.out.trans (b1.mono B9.out.size)); clear p0 p1 p2 p3 p4 p5 p6 p7 p8 pl b1; obtain ⟨p0, p1, p2, p3, p4, p5, p6, p7, p8, pl⟩ := A10.out)
    | (go_at_call 88; (with_reducible refine (sameTexts_any E do_ co cd cc w10 L10.out K10.out Z8.out).mono ?_); rintro e w11 ⟨rfl, b1⟩; have T11 := Lib.hid (T10.out.below b1); have A11 := Lib.hid (A10.out.below b1); have B11 := Lib.hid (B10.out.trans (b1.mono B10.out.size)); clear p0 p1 p2 p3 p4 p5 p6 p7 p8 pl b1; obtain ⟨p0, p1, p2, p3, p4, p5, p6, p7, p8, pl⟩ := A11.out)
    | (go_at_call 62; (with_reducible refine (CK.out w11 T11.out).mono ?_); rintro e w12 ⟨fo, cf, K, rfl, hl1, hl2, hl3, b1⟩; have S12 := Lib.hid hl1; have Z12 := Lib.hid hl2; have L12 := Lib.hid hl3; have T12 := Lib.hid (T11.out.below b1); have A12 := Lib.hid (A11.out.below b1); have B12 := Lib.hid (B11.out.trans (b1.mono B11.out.size)); clear p0 p1 p2 p3 p4 p5 p6 p7 p8 pl b1 hl1 hl2 hl3; obtain ⟨p0, p1, p2, p3, p4, p5, p6, p7, p8, pl⟩ := A12.out)
    | (go_at_call 50; (with_reducible refine (CL.out w12 T12.out).mono ?_); rintro e w13 ⟨go_, cg, K', rfl, hl1, hl3, b1⟩; obtain rfl := S12.out.one hl1; have L13 := Lib.hid hl3; have K13 := Lib.hid (L12.out.below b1); have T13 := Lib.hid (T12.out.below b1); have B13 := Lib.hid (B12.out.trans (b1.mono B12.out.size)); clear p0 p1 p2 p3 p4 p5 p6 p7 p8 pl b1 hl1 hl3))
   have CB13 := Lib.hid fun (X : InC (Bel w13)) => CB.out n4 X.w (T13.out.below X.ok)
   have CS13 := Lib.hid fun (X : InC (Bel w13)) => sameKeys_any K go_ fo cg cf X.w (L13.out.below X.ok) (K13.out.below X.ok) Z12.out
   have CN13 := Lib.hid fun (X : InC (Bel w13)) => pnow_any pb po R s g X.w (T13.out.below X.ok).p.at'
   have CR13 := Lib.hid fun (X : InC (Bel w13)) => rpnow_any X.w (T13.out.below X.ok).r
   have CM13 := Lib.hid fun (X : InC (Bel w13)) => pknown_any pb po R s g X.w (T13.out.below X.ok).p.at'
   rw [T13.out.k] at CM13
   rw [T13.out.p.now] at CN13
   obtain ⟨rao, rc, ⟨_, r1⟩, _, _⟩ := T13.out.r.get
   have rl := T13.out.r.lt
   have r1' : ∀ X : InC (Bel w13), X.w.cell? ⟨rb, 1, none⟩ = some (.int .i64 known) := fun X => X.cell r1
   refine wp_region_in (S := Bel w13) (by kernel_rfl) (by kernel_rfl) (bel_drew (Below.refl _ w13)) (fun hne => ?_)
   repeat (go_big_quiet_step (first
    | (go_at_call 23; exact InC.call (CB13.out _))
    | (go_at_call 30; exact InC.call (CS13.out _))
    | (go_at_call 12; exact InC.call_same ((CN13.out _).mono fun _ _ h => ⟨h.1, h.2.symm⟩))
    | (go_at_call 60; exact InC.call_same (CR13.out _))
    | (go_at_call 79; exact InC.call_same ((CM13.out _).mono fun _ _ h => ⟨h.1, h.2.symm⟩))))
   refine wpQuiet_nil ?_
   rintro _ ⟨X, rfl⟩
   go_wp2_with fail
   go_ret
   exact ⟨by simp, B13.out.trans (X.ok.mono B13.out.size)⟩
section
variable {pb rb : Nat} {R : Rest} {hist : List (List OpP)} {known : Int} {s : Pst} {g : Gh}
end
structure PZ (w0 Z : World) (pb rb : Nat) : Prop where
 z : Below w0.heap.size w0 Z
 b0 : w0.heap.size <= pb
 b1 : pb < rb
 b2 : rb < Z.heap.size
 ev : ErrVar w0
 pt : PowTab w0
theorem PZ.be {w0 Z X : World} {pb rb : Nat} (h : PZ w0 Z pb rb) (f : Fr (fun k => k = pb \/ k = rb) Z X) : Below w0.heap.size w0 X :=
 h.z.trans (f.below (fun k _ e => by have := h.b0; have := h.b1; omega) h.z.size)
structure PP (w0 Z : World) (pb rb : Nat) (R : Rest) (hist : List (List OpP)) (s : Pst) (g : Gh) (known : Int) (X : World) : Prop where
 pz : PZ w0 Z pb rb
 p : PastIs X pb 0 R hist s g
 r : RP (g.foot pb) X rb hist known
 k : s.gone = known
 fr : Fr (fun k => k = pb \/ k = rb) Z X
 ft : ∀ k, g.foot pb k -> k = pb \/ Z.heap.size <= k
structure PH (w0 Z : World) (pb rb : Nat) (R : Rest) (hist hist' : List (List OpP)) (s' : Pst) (g' : Gh) (known known' : Int) (X : World) : Prop where
 pz : PZ w0 Z pb rb
 p : PastIs X pb 0 R hist' s' g'
 r : RP (g'.foot pb) X rb hist known
 k : s'.gone = known'
 fr : Fr (fun k => k = pb \/ k = rb) Z X
 ft : ∀ k, g'.foot pb k -> k = pb \/ Z.heap.size <= k
section
variable {w0 Z X Y : World} {pb rb : Nat} {R : Rest} {hist hist' : List (List OpP)} {s s' : Pst} {g g' : Gh} {known known' : Int}
theorem PP.tp (h : PP w0 Z pb rb R hist s g known X) : TP (g.foot pb) pb 0 rb R hist s g known X := ⟨h.p, h.r, h.k, h.pz.ev.below (h.pz.be h.fr)⟩
theorem PP.be (h : PP w0 Z pb rb R hist s g known X) : Below w0.heap.size w0 X := h.pz.be h.fr
theorem PH.ev (h : PH w0 Z pb rb R hist hist' s' g' known known' X) : ErrVar X := h.pz.ev.below (h.pz.be h.fr)
theorem PP.below (h : PP w0 Z pb rb R hist s g known X) (b : Below X.heap.size X Y) : PP w0 Z pb rb R hist s g known Y :=
 ⟨h.pz, h.p.below b, h.r.below b, h.k, h.fr.trans (Fr.new b), h.ft⟩
theorem PP.half (h : PP w0 Z pb rb R hist s g known X) (hp : PastIs Y pb 0 R hist' s' g') (hk : s'.gone = known') (hf : Fr (g.foot pb) X Y) (hG : Grows g g' pb X) : PH w0 Z pb rb R hist hist' s' g' known known' Y := by
 have hs := h.fr.size
 refine ⟨h.pz, hp, h.r.turn hf hG, hk, h.fr.next hf (fun k hk e => ?_), fun k hk => ?_⟩
 · rcases h.ft k e with e | e
   · exact .inl e
   · omega
 · rcases hG k hk with e | e
   · exact h.ft k e
   · exact .inr (by omega)
theorem PH.full (h : PH w0 Z pb rb R hist hist' s' g' known known' X) (hr : RP (g'.foot pb) Y rb hist' known') (hf : Fr (· = rb) X Y) : PP w0 Z pb rb R hist' s' g' known' Y :=
 ⟨h.pz, h.p.frame hf (fun k hk e => by subst e; exact hr.nf hk), hr, h.k, h.fr.trans (hf.mono fun k _ e => .inr e), h.ft⟩
theorem PP.ops (h : PP w0 Z pb rb R hist s g known X) {ao : Option Addr} {l : List OpP} (hl : opsAt Z ao l) (hn : l ≠ [] -> ∀ b f, ao = some ⟨b, f, none⟩ -> b < Z.heap.size /\ b ≠ pb /\ b ≠ rb) : opsAt X ao l /\ (l ≠ [] -> SepOps ao g pb) := by
 refine ⟨fun i o hi => ?_, fun h0 b f e hf => ?_⟩
 · obtain ⟨b, f, e, hc⟩ := hl i o hi
   obtain ⟨n1, n2, n3⟩ := hn (fun e => by subst e; simp at hi) b f e
   exact ⟨b, f, e, fun j u hj => (World.cell?_of_block (a := ⟨b, _, none⟩) (h.fr.block b n1 (fun e => by omega))).trans (hc j u hj)⟩
 · obtain ⟨n1, n2, n3⟩ := hn h0 b f e
   rcases h.ft b hf with e | e
   · exact n2 e
   · omega
theorem PH.ops (h : PH w0 Z pb rb R hist hist' s' g' known known' X) {ao : Option Addr} {l : List OpP} (hl : opsAt Z ao l) (hn : l ≠ [] -> ∀ b f, ao = some ⟨b, f, none⟩ -> b < Z.heap.size /\ b ≠ pb /\ b ≠ rb) : opsAt X ao l := fun i o hi => by
 obtain ⟨b, f, e, hc⟩ := hl i o hi
 obtain ⟨n1, n2, n3⟩ := hn (fun e => by subst e; simp at hi) b f e
 exact ⟨b, f, e, fun j u hj => (World.cell?_of_block (a := ⟨b, _, none⟩) (h.fr.block b n1 (fun e => by omega))).trans (hc j u hj)⟩
end
structure AskP where
 key : KeyP
 a : Int
 b : Int
 t : Int
 f : Int
 u : Int
def askCells (x : AskP) : List Value := [.int .i64 x.key.kind, .int .i64 x.key.a, .string x.key.word, .int .i64 x.key.b, .int .i64 x.a, .int .i64 x.b, .int .i64 x.t, .int .i64 x.f, .int .i64 x.u]
def asksAt (w : World) (ao : Option Addr) (l : List AskP) : Prop := ∀ i x, l[i]? = some x -> ∃ b f, ao = some ⟨b, f, none⟩ /\ ∀ j u, (askCells x)[j]? = some u -> w.cell? ⟨b, f + i * 9 + j, none⟩ = some u
structure StepP where
 what : Int
 n : Int
 torn : Int
 ops : List OpP
def stepsAt (w : World) (ao : Option Addr) (l : List StepP) : Prop := ∀ i x, l[i]? = some x -> ∃ b f, ao = some ⟨b, f, none⟩ /\ ∃ oo oc, w.cell? ⟨b, f + i * 4, none⟩ = some (.int .i64 x.what) /\ w.cell? ⟨b, f + i * 4 + 1, none⟩ = some (.int .i64 x.n) /\ w.cell? ⟨b, f + i * 4 + 2, none⟩ = some (.int .i64 x.torn) /\ w.cell? ⟨b, f + i * 4 + 3, none⟩ = some (.slice oo x.ops.length oc) /\ opsAt w oo x.ops /\ x.ops.length <= maxLen
theorem opsAt_lt {w : World} {ao : Option Addr} {l : List OpP} (h : opsAt w ao l) (hl : l ≠ []) : ∀ b f, ao = some ⟨b, f, none⟩ -> b < w.heap.size := fun b f e => by
 cases l with
 | nil => exact absurd rfl hl
 | cons o l =>
   obtain ⟨b', f', e', hc⟩ := h 0 o rfl
   rw [e] at e'; cases e'
   exact World.block_lt_of_cell? w _ (hc 0 _ rfl)
end Go.Proofs.YtflhpmgjehjjkaaGreatDoor
